/- Each operation of the evaluator does what the model's does (1). -/
import Derived.Test.YtndlcnfnoiabbaaGevComp
import Derived.Test.YtndlcnfnoiabbaaGevMems
import Derived.WalkLawsBesides
import Derived.Laws.MakeOwn
import Derived.Laws.Slices
import Derived.Laws.StructEq
import Derived.Laws.Tables
import Derived.LaidEqlPtr
namespace Go.Gev
open Go.RowKit
structure EnR (ρ : Ren) (cx : Cx) (en : En) (tm : Array Value) : Prop where
 look : ∀ t, VR ρ (ev en (cx.look t)) (tm.getD t undef)
theorem EnR.plain {ρ : Ren} {sl : List Nat} {df : List (Option Nat)} {en : En} {tm : Array Value} (h1 : ∀ t p, slot sl t = some p → VR ρ (vOr (en.fr.getp p)) (tm.getD t undef))
 (h2 : ∀ t i, locAt t df = some i → VR ρ (nthL i en.loc) (tm.getD t undef)) : EnR ρ (plainCx sl df) en tm := ⟨fun t => by
 simp only [plainCx, plainLook]
 cases h : locAt t df with
 | some i => exact h2 t i h
 | none =>
  simp only [slotX]
  cases h3 : slot sl t with
  | some p => exact h1 t p h3
  | none => exact .dunno _⟩
theorem EnR.mono {ρ ρ' : Ren} {cx : Cx} {en : En} {tm : Array Value} (h : EnR ρ cx en tm) (hle : ρ.le ρ') : EnR ρ' cx en tm := ⟨fun t => (h.look t).mono hle⟩
theorem okC1_VR {ρ : Ren} {v : Value} (h : okC1 v = true) : VR ρ v v := by
 cases v with
 | int k n => exact .int k n
 | bool b => exact .bool b
 | string s => exact .string s
 | nilIface => exact .nilIface
 | nilFunc => exact .nilFunc
 | pointer a => cases a with
  | none => exact .nilptr
  | some a => simp [okC1] at h
 | slice a n c => cases a with
  | none => cases n with
   | zero => cases c with
    | zero => exact .nilslice
    | succ c => simp [okC1] at h
   | succ n => simp [okC1] at h
  | some a => simp [okC1] at h
 | map r => cases r with
  | none => exact .nilmap
  | some r => simp [okC1] at h
 | _ => simp [okC1] at h
theorem okCL_VL {ρ : Ren} : ∀ {vs : List Value}, okCL vs = true → VL ρ vs vs := by
 intro vs
 induction vs with
 | nil => intro _; exact VL.nil
 | cons v vs ih =>
  intro h
  simp only [okCL] at h
  cases hv : okC1 v with
  | false => rw [hv] at h; cases h
  | true => rw [hv] at h; exact .cons (okC1_VR hv) (ih h)
theorem okC_VR {ρ : Ren} {v : Value} (h : okC v = true) : VR ρ v v := by
 cases v with
 | agg cs =>
  have g := VL.get (okCL_VL (ρ := ρ) h)
  exact .agg cs cs g.1 g.2
 | _ => exact okC1_VR h
section
variable {ρ : Ren} {cx : Cx} {en : En} {tm : Array Value}
theorem gt_VR (E : EnR ρ cx en tm) (t : Nat) : VR ρ (ev en (gt cx t)) (tm.getD t undef) := E.look t
theorem gx_VR {a : Act} (E : EnR ρ cx en a.tmps) {x : Operand} {y : GX} (h : gx cx x = some y) : VR ρ (ev en y) (a.eval x) := by
 cases x with
 | tmp t => simp only [gx, Option.some.injEq] at h; subst h; exact gt_VR E t
 | const v =>
  simp only [gx] at h
  cases ho : okC v with
  | false => rw [ho] at h; cases h
  | true => rw [ho] at h; injection h with h; subst h; exact okC_VR ho
 | global g => cases h
 | func f => simp only [gx, Option.some.injEq] at h; subst h; exact .func _ #[] #[] #[] #[] (fun l e => by cases e) rfl (fun i a => by simp at a) rfl (fun i a => by simp at a)
theorem gxs_VL {a : Act} (E : EnR ρ cx en a.tmps) : ∀ {xs : List Operand} {ys : List GX}, gxs cx xs = some ys → VL ρ (evL en ys) (xs.map a.eval) := by
 intro xs
 induction xs with
 | nil => intro ys h; simp only [gxs, Option.some.injEq] at h; subst h; exact VL.nil
 | cons x xs ih =>
  intro ys h
  simp only [gxs] at h
  cases h1 : gx cx x with
  | none => rw [h1] at h; cases h
  | some y => cases h2 : gxs cx xs with
   | none => rw [h1, h2] at h; cases h
   | some zs => rw [h1, h2] at h; injection h with h; subst h; exact .cons (gx_VR E h1) (ih h2)
end
theorem VR.bool_inv {ρ : Ren} {b : Bool} {v : Value} (h : VR ρ (.bool b) v) : v = .bool b := by cases h; rfl
theorem VR.int_inv {ρ : Ren} {k : IntKind} {n : Int} {v : Value} (h : VR ρ (.int k n) v) : v = .int k n := by cases h; rfl
theorem VR.string_inv {ρ : Ren} {s : ByteArray} {v : Value} (h : VR ρ (.string s) v) : v = .string s := by cases h; rfl
theorem VR.agg_inv {ρ : Ren} {xs : Array Value} {v : Value} (h : VR ρ (.agg xs) v) : ∃ ys, v = .agg ys ∧ VL ρ xs.toList ys.toList := by
 cases h with
 | agg _ ys h h' => exact ⟨ys, rfl, VL.arr h h'⟩
theorem VR.tuple_inv {ρ : Ren} {xs : Array Value} {v : Value} (h : VR ρ (.tuple xs) v) : ∃ ys, v = .tuple ys ∧ VL ρ xs.toList ys.toList := by
 cases h with
 | tuple _ ys h h' => exact ⟨ys, rfl, VL.arr h h'⟩
theorem VR.undef_inv {ρ : Ren} : VR ρ undef' undef := .tuple #[] #[] rfl (fun i a => by simp at a)
theorem addrOf_VR {ρ : Ren} {v v' : Value} {p : Nat × Nat} (h : VR ρ v v') (e : addrOf v = some p) : ∃ H, ρ p.1 = some H ∧ v = .pointer (some ⟨p.1, p.2, none⟩) ∧ v' = .pointer (some ⟨H.blk, H.off + p.2, none⟩) := by
 cases h with
 | ptr id off H hh =>
  simp only [addrOf, Option.some.injEq] at e
  subst e
  exact ⟨H, hh, rfl, rfl⟩
 | _ => cases e
theorem natOf_VR {ρ : Ren} {v v' : Value} {n : Nat} (h : VR ρ v v') (e : natOf v = some n) : ∃ k, v = .int k (n : Int) ∧ v' = .int k (n : Int) := by
 cases v with
 | int k m => cases m with
  | ofNat m => simp only [natOf, Option.some.injEq] at e; subst e; exact ⟨k, rfl, h.int_inv⟩
  | negSucc m => cases e
 | _ => cases e
def Did (P : Program) (o : Oper) (a : Act) (w : World) (v' : Value) (w' : World) : Prop :=
 (execOp a.eval o).run P w = .ok (.value v') w' ∨ ((execOp a.eval o).run P w = .ok .skip w' ∧ v' = undef)
def Snd (P : Program) (cx : Cx) (o : Oper) (g : En → Hs → Rs) : Prop :=
 ∀ (B : Nat) (ρ : Ren) (en : En) (h : Hs) (w : World) (a : Act) (v : Value) (h' : Hs), EnR ρ cx en a.tmps → HR B ρ h w → g en h = some (v, h') →
  ∃ v' w' ρ', Did P o a w v' w' ∧ VR ρ' v v' ∧ St B ρ h w ρ' h' w'
theorem snd_still {P : Program} {cx : Cx} {o : Oper} {g : En → Hs → Rs}
 (H : ∀ (B : Nat) (ρ : Ren) (en : En) (h : Hs) (w : World) (a : Act) (v : Value) (h' : Hs), EnR ρ cx en a.tmps → HR B ρ h w → g en h = some (v, h') → h' = h ∧ ∃ v', (execOp a.eval o).run P w = .ok (.value v') w ∧ VR ρ v v') : Snd P cx o g :=
 fun B ρ en h w a v h' E R hg => by
  obtain ⟨rfl, v', h1, h2⟩ := H B ρ en h w a v h' E R hg
  exact ⟨v', w, ρ, .inl h1, h2, St.refl R⟩
theorem ret1_some {h h' : Hs} {x : Option Value} {v : Value} (e : ret1 h x = some (v, h')) : x = some v ∧ h' = h := by
 cases x with
 | none => cases e
 | some u => simp only [ret1, Option.some.injEq, Prod.mk.injEq] at e; exact ⟨by rw [e.1], e.2.symm⟩
section
variable {P : Program} {cx : Cx} {o : Oper}
theorem snd_mv {x : Operand} {y : GX} (ho : o.op = .move x ∨ o.op = .assign x) (hx : gx cx x = some y) : Snd P cx o (oMv y) :=
 snd_still fun B ρ en h w a v h' E R e => by
  simp only [oMv, Option.some.injEq, Prod.mk.injEq] at e
  obtain ⟨rfl, rfl⟩ := e
  refine ⟨rfl, a.eval x, ?_, gx_VR E hx⟩
  rcases ho with ho | ho <;> simp [execOp, ho]
theorem snd_pick {c x y : Operand} {c' x' y' : GX} (ho : o.op = .pick c x y) (hc : gx cx c = some c') (hx : gx cx x = some x') (hy : gx cx y = some y') : Snd P cx o (oPick c' x' y') :=
 snd_still fun B ρ en h w a v h' E R e => by
  have hcv := gx_VR E hc
  unfold oPick at e
  cases hv : ev en c' with
  | bool t =>
   rw [hv] at hcv e
   have hq := hcv.bool_inv
   cases t with
   | true =>
    simp only [pickB, Option.some.injEq, Prod.mk.injEq] at e
    obtain ⟨rfl, rfl⟩ := e
    exact ⟨rfl, _, by simp [execOp, ho, hq, asBool], gx_VR E hx⟩
   | false =>
    simp only [pickB, Option.some.injEq, Prod.mk.injEq] at e
    obtain ⟨rfl, rfl⟩ := e
    exact ⟨rfl, _, by simp [execOp, ho, hq, asBool], gx_VR E hy⟩
  | _ => rw [hv] at e; cases e
theorem info_run {t : TypeId} {i : TypeInfo} (h : P.info? t = some i) (w : World) : (typeInfo t).run P w = .ok i w := by simp [typeInfo, h]
theorem zeroOf_some {t : TypeId} {z : List Value} (h : zeroOf P t = some z) : ∃ i zv, P.info? t = some i ∧ i.zero = some zv ∧ zv.cells.toList = z ∧ okCL z = true ∧ zv.cells.size = i.size := by
 unfold zeroOf at h
 cases hi : P.info? t with
 | none => rw [hi] at h; cases h
 | some i =>
  simp only [hi] at h
  cases hz : i.zero with
  | none => simp only [hz] at h; cases h
  | some zv =>
   simp only [hz] at h
   cases ho : okCL zv.cells.toList with
   | false => simp only [ho] at h; cases h
   | true =>
    simp only [ho] at h
    cases hb : Nat.beq zv.cells.toList.length i.size with
    | false => simp only [hb] at h; cases h
    | true =>
     simp only [hb, Option.some.injEq] at h
     exact ⟨i, zv, rfl, hz, h, h ▸ ho, by simpa using Nat.eq_of_beq_eq_true hb⟩
theorem snd_alloc {e : TypeId} {z : List Value} (ho : o.op = .alloc e) (hz : zeroOf P e = some z) : Snd P cx o (oAlloc e z) := fun B ρ en h w a v h' E R hg => by
 obtain ⟨i, zv, hi, hiz, hzc, hok, _⟩ := zeroOf_some hz
 simp only [oAlloc, Option.some.injEq, Prod.mk.injEq] at hg
 obtain ⟨rfl, rfl⟩ := hg
 refine ⟨.pointer (some ⟨w.heap.size, 0, none⟩), w.alloc (.cells zv.cells e), _, .inl ?_, ?_, step_new (w := w) R rfl rfl rfl rfl e 0 z zv.cells z (okCL_VL hok) (by rw [← hzc, Array.length_toList, List.take_of_length_le (by simp)])⟩
 ·simp [execOp, ho, Instr.alloc, zeroValue, info_run hi, hiz, newVar, Go.newRow]
 ·exact .ptr h.nx 0 _ (Ren.add_same _ _ _)
theorem snd_box {e : TypeId} {x : Operand} {y : GX} (ho : o.op = .box e x) (hx : gx cx x = some y) : Snd P cx o (oBox e y) := fun B ρ en h w a v h' E R hg => by
 have hv := gx_VR E hx
 simp only [oBox] at hg
 cases hd : isDunno (ev en y) with
 | true => rw [hd] at hg; cases hg
 | false =>
  rw [hd] at hg
  simp only [Option.some.injEq, Prod.mk.injEq] at hg
  obtain ⟨rfl, rfl⟩ := hg
  have hne : ev en y ≠ .chan none := fun e1 => by rw [e1] at hd; cases hd
  refine ⟨.pointer (some ⟨w.heap.size, 0, none⟩), w.alloc (.cells (a.eval x).cells e), _, .inl ?_, .ptr h.nx 0 _ (Ren.add_same _ _ _), step_new (w := w) R rfl rfl rfl rfl e 0 _ (a.eval x).cells _ (hv.cells hne) (by rw [Array.length_toList, List.take_of_length_le (by simp)])⟩
  simp [execOp, ho, Instr.box, newVar, Go.newRow]
end
end Go.Gev
namespace Go.Gev
open Go.RowKit
section
variable {P : Program} {cx : Cx} {o : Oper}
theorem size_run {t : TypeId} {n : Nat} (h : sizeOfT P t = some n) (w : World) : (sizeOf t).run P w = .ok n w := by
 unfold sizeOfT at h
 cases hi : P.info? t with
 | none => rw [hi] at h; cases h
 | some i => rw [hi] at h; injection h with h; subst h; simp [sizeOf, info_run hi]
theorem under_run {t : TypeId} {d : TypeDesc} (h : P.underlying t = some d) (w : World) : (underlying t).run P w = .ok d w := by simp [underlying, h]
theorem isAgg_run {t : TypeId} {b : Bool} (h : isAggT P t = some b) (w : World) : (isAgg t).run P w = .ok b w := by
 unfold isAggT at h
 cases hu : P.underlying t with
 | none => rw [hu] at h; cases h
 | some d =>
  rw [hu] at h
  simp only [isAgg, Sem.run_bind, under_run hu, Result.andThen_ok]
  cases d <;> (injection h with h; subst h; rfl)
theorem cell_load {w : World} {a : Addr} {v : Value} (h : w.cell? a = some v) : (load a).run P w = .ok v w := by
 simp [h]
theorem snd_load {t : TypeId} {x : Operand} {y : GX} (ho : o.op = .load t x) (hx : gx cx x = some y) (ha : isAggT P t = some false) : Snd P cx o (oLoad y) :=
 snd_still fun B ρ en h w a v h' E R e => by
  have hv := gx_VR E hx
  unfold oLoad at e
  cases hp : addrOf (ev en y) with
  | none => rw [hp] at e; cases e
  | some p =>
   rw [hp] at e
   obtain ⟨e1, rfl⟩ := ret1_some e
   obtain ⟨H, hH, _, hax⟩ := addrOf_VR hv hp
   obtain ⟨H', v', h1, h2, h3⟩ := R.cell e1
   rw [hH] at h1
   injection h1 with h1
   subst h1
   refine ⟨rfl, v', ?_, h3⟩
   simp only [execOp, ho, hax, Instr.loadAt, Instr.sureAddr, loadVar, Sem.run_bind, Sem.run_pure, Result.andThen_ok, isAgg_run ha, Bool.false_eq_true, if_false, cell_load h2]
theorem snd_loads {t : TypeId} {x : Operand} {y : GX} {n : Nat} (ho : o.op = .load t x) (hx : gx cx x = some y) (ha : isAggT P t = some true) (hn : sizeOfT P t = some n) : Snd P cx o (oLoads n y) :=
 snd_still fun B ρ en h w a v h' E R e => by
  have hv := gx_VR E hx
  unfold oLoads at e
  cases hp : addrOf (ev en y) with
  | none => rw [hp] at e; cases e
  | some p =>
   rw [hp] at e
   simp only [loads1] at e
   cases hc : blkCells n p.2 (h.hp.get p.1) with
   | none => rw [hc] at e; cases e
   | some vs =>
    rw [hc] at e
    simp only [build1, Option.some.injEq, Prod.mk.injEq] at e
    obtain ⟨rfl, rfl⟩ := e
    obtain ⟨H, hH, _, hax⟩ := addrOf_VR hv hp
    obtain ⟨H', ys, h1, h2, h3, h4⟩ := R.cells hc
    rw [hH] at h1
    injection h1 with h1
    subst h1
    refine ⟨rfl, .agg ys.toArray, ?_, VR.agg_of h2⟩
    have hl := run_loadCells_list (P := P) (w := w) ⟨H.blk, H.off + p.2, none⟩ ys h4
    have hl' : ys.length = n := by rw [← h2.1]; exact h3
    rw [hl'] at hl
    simp only [execOp, ho, hax, Instr.loadAt, Instr.sureAddr, loadVar, Sem.run_bind, Sem.run_pure, Result.andThen_ok, isAgg_run ha, if_true, size_run hn, hl]
theorem snd_store {t : TypeId} {x y : Operand} {x' y' : GX} {n : Nat} (ho : o.op = .store t x y) (hx : gx cx x = some x') (hy : gx cx y = some y') (hn : sizeOfT P t = some n) : Snd P cx o (oStore n x' y') :=
 fun B ρ en h w a v h' E R e => by
  have hv := gx_VR E hx
  have hw := gx_VR E hy
  unfold oStore store1 at e
  cases hb : Nat.beq (cellsL (ev en y')).length n with
  | false => rw [hb] at e; cases e
  | true =>
   rw [hb] at e
   cases hp : addrOf (ev en x') with
   | none => rw [hp] at e; cases e
   | some p =>
    rw [hp] at e
    simp only [store2] at e
    cases hs : storeB h p.1 p.2 (cellsL (ev en y')) (h.hp.get p.1) with
    | none => rw [hs] at e; cases e
    | some h2 =>
     rw [hs] at e
     simp only [unit1, Option.some.injEq, Prod.mk.injEq] at e
     obtain ⟨rfl, rfl⟩ := e
     have hne : ev en y' ≠ .chan none := fun e1 => by
      rw [e1] at hs
      cases hg : h.hp.get p.1 with
      | none => rw [hg] at hs; cases hs
      | some b => rw [hg] at hs; cases b with
       | mp => cases hs
       | it => cases hs
       | lp => cases hs
       | row c m e u rw_ fl => cases rw_ <;> simp [storeB, cellsL, storeN, oneC, setRow] at hs
     have hcs := hw.cells hne
     obtain ⟨H, hH, _, hax⟩ := addrOf_VR hv hp
     obtain ⟨H', w', h1, hrun, hst⟩ := step_store P R hs hcs
     rw [hH] at h1
     injection h1 with h1
     subst h1
     have hsz : (a.eval y).cells.size = n := by
      have := hcs.1
      rw [Nat.eq_of_beq_eq_true hb] at this
      simpa using this.symm
     refine ⟨undef, w', ρ, .inr ⟨?_, rfl⟩, VR.undef_inv, hst⟩
     simp only [execOp, ho, hax, Instr.storeAt, Instr.sureAddr, storeVar, Sem.run_bind, Sem.run_pure, Result.andThen_ok, size_run hn, hsz, ne_eq, not_true_eq_false, if_false, hrun]
theorem snd_nilc {x : Operand} {y : GX} (ho : o.op = .nilCheck x) (hx : gx cx x = some y) : Snd P cx o (oNilc y) :=
 snd_still fun B ρ en h w a v h' E R e => by
  have hv := gx_VR E hx
  obtain ⟨e1, rfl⟩ := ret1_some (show ret1 h (nilc1 (ev en y)) = _ from e)
  generalize ev en y = u at hv e1
  generalize hq : a.eval x = u' at hv
  cases hv with
  | ptr id off H hh =>
   simp only [nilc1, Option.some.injEq] at e1
   subst e1
   exact ⟨rfl, _, by simp [execOp, ho, hq], .ptr id off H hh⟩
  | func fn f f' c c' hn h1 h2 h3 h4 =>
   cases fn with
   | func g =>
    simp only [nilc1, Option.some.injEq] at e1
    subst e1
    exact ⟨rfl, _, by simp [execOp, ho, hq], .func _ f f' c c' hn h1 h2 h3 h4⟩
   | _ => cases e1
  | _ => cases e1
theorem snd_bin {op : BinOp} {t yt : TypeId} {x y : Operand} {x' y' : GX} {f : Value → Value → Option Value} (ho : o.op = .binOp op t x y yt) (hx : gx cx x = some x') (hy : gx cx y = some y')
 (H : ∀ (ρ : Ren) (w : World) (u u2 v v2 r : Value), VR ρ u v → VR ρ u2 v2 → f u u2 = some r → ∃ r', (do eqGuard op t x y v v2; binOp op t v v2 : Sem Value).run P w = .ok r' w ∧ VR ρ r r') : Snd P cx o (oV2 f x' y') :=
 snd_still fun B ρ en h w a v h' E R e => by
  obtain ⟨e1, rfl⟩ := ret1_some (show ret1 h (f (ev en x') (ev en y')) = _ from e)
  obtain ⟨r', h1, h2⟩ := H ρ w _ _ _ _ _ (gx_VR E hx) (gx_VR E hy) e1
  refine ⟨rfl, r', ?_, h2⟩
  rw [show (execOp a.eval o) = (do pure (.value (← (do eqGuard op t x y (a.eval x) (a.eval y); binOp op t (a.eval x) (a.eval y)))) : Sem Next) from by simp only [execOp, ho]]
  simp only [Sem.run_bind] at h1 ⊢
  rw [h1]
  rfl
theorem kn_inj {k k' : IntKind} (h : Nat.beq (kn k) (kn k') = true) : k = k' := by
 cases k <;> cases k' <;> first | rfl | (simp [kn] at h)
theorem i2_some {f : F2} {x y r : Value} (h : i2 f x y = some r) : ∃ k a b, x = .int k a ∧ y = .int k b ∧ f k a b = some r := by
 cases x with
 | int k a => cases y with
  | int k' b =>
   simp only [i2, i2b] at h
   cases hb : Nat.beq (kn k) (kn k') with
   | false => rw [hb] at h; cases h
   | true => rw [hb] at h; obtain rfl := kn_inj hb; exact ⟨k, a, b, rfl, rfl, h⟩
  | _ => cases h
 | _ => cases h
theorem bits_nat (k : IntKind) (m : Nat) : (BitVec.ofInt k.bits (Int.ofNat m)).toNat = m % 2 ^ k.bits := by
 simp
theorem snd_i2 {op : BinOp} {t yt : TypeId} {x y : Operand} {x' y' : GX} (hop : op ≠ .shl ∧ op ≠ .shr) (ho : o.op = .binOp op t x y yt) (hx : gx cx x = some x') (hy : gx cx y = some y') : Snd P cx o (oV2 (i2 (fOf op)) x' y') :=
 snd_bin ho hx hy fun ρ w u u2 v v2 r hu hu2 e => by
  obtain ⟨k, a, b, rfl, rfl, hf⟩ := i2_some e
  obtain rfl := hu.int_inv
  obtain rfl := hu2.int_inv
  have hg : eqGuard op t x y (.int k a) (.int k b) = pure () := by cases op <;> rfl
  rw [hg]
  simp only [Sem.run_bind, Sem.run_pure, Result.andThen_ok]
  cases op with
  | add => simp only [fOf, fAdd, Option.some.injEq] at hf; subst hf; exact ⟨_, by rw [binOp_add]; simp [Op.intArith]; rfl, by rw [wrapF_eq]; exact .int _ _⟩
  | sub => simp only [fOf, fSub, Option.some.injEq] at hf; subst hf; exact ⟨_, by rw [binOp_sub]; simp [Op.intArith]; rfl, by rw [wrapF_eq]; exact .int _ _⟩
  | mul => simp only [fOf, fMul, Option.some.injEq] at hf; subst hf; exact ⟨_, by rw [binOp_mul]; simp [Op.intArith]; rfl, by rw [wrapF_eq]; exact .int _ _⟩
  | quo =>
   simp only [fOf, fQuo] at hf
   cases hb : eqI b 0 with
   | true => rw [hb] at hf; cases hf
   | false =>
    rw [hb] at hf
    injection hf with hf
    subst hf
    rw [eqI_eq] at hb
    have : b ≠ 0 := by simpa using hb
    exact ⟨_, by rw [binOp_quo]; simp [Op.intDiv, this]; rfl, by rw [wrapF_eq]; exact .int _ _⟩
  | rem =>
   simp only [fOf, fRem] at hf
   cases hb : eqI b 0 with
   | true => rw [hb] at hf; cases hf
   | false =>
    rw [hb] at hf
    injection hf with hf
    subst hf
    rw [eqI_eq] at hb
    have : b ≠ 0 := by simpa using hb
    exact ⟨_, by rw [binOp_rem]; simp [Op.intDiv, this], .int _ _⟩
  | eql => simp only [fOf, fEql, Option.some.injEq] at hf; subst hf; exact ⟨_, by rw [binOp_eql]; rfl, by rw [eqI_eq]; exact .bool _⟩
  | neq =>
   simp only [fOf, fNeq, Option.some.injEq] at hf; subst hf
   exact ⟨_, by rw [binOp_neq]; rfl, by rw [eqI_eq]; have : notB (a == b) = (a != b) := by cases h : (a == b) <;> simp [notB, bne, h]
                                        rw [this]; exact .bool _⟩
  | lss => simp only [fOf, fLss, Option.some.injEq] at hf; subst hf; exact ⟨_, by rw [binOp_lss]; rfl, by rw [ltI_eq]; exact .bool _⟩
  | leq => simp only [fOf, fLeq, Option.some.injEq] at hf; subst hf; exact ⟨_, by rw [binOp_leq]; rfl, by rw [leI_eq]; exact .bool _⟩
  | gtr => simp only [fOf, fGtr, Option.some.injEq] at hf; subst hf; exact ⟨_, by rw [binOp_gtr]; rfl, by rw [ltI_eq]; exact .bool _⟩
  | geq => simp only [fOf, fGeq, Option.some.injEq] at hf; subst hf; exact ⟨_, by rw [binOp_geq]; rfl, by rw [leI_eq]; exact .bool _⟩
  | shl => exact absurd rfl hop.1
  | shr => exact absurd rfl hop.2
  | and =>
   cases a with
   | negSucc a => cases hf
   | ofNat a => cases b with
    | negSucc b => cases hf
    | ofNat b =>
     simp only [fOf, fBits, bitI, Option.some.injEq] at hf; subst hf
     refine ⟨_, by rw [binOp_and]; rfl, ?_⟩
     rw [wrapF_eq]
     simp only [BitVec.toNat_and, bits_nat]
     exact .int _ _
  | or =>
   cases a with
   | negSucc a => cases hf
   | ofNat a => cases b with
    | negSucc b => cases hf
    | ofNat b =>
     simp only [fOf, fBits, bitI, Option.some.injEq] at hf; subst hf
     refine ⟨_, by rw [binOp_or]; rfl, ?_⟩
     rw [wrapF_eq]
     simp only [BitVec.toNat_or, bits_nat]
     exact .int _ _
  | xor =>
   cases a with
   | negSucc a => cases hf
   | ofNat a => cases b with
    | negSucc b => cases hf
    | ofNat b =>
     simp only [fOf, fBits, bitI, Option.some.injEq] at hf; subst hf
     refine ⟨_, by rw [binOp_xor]; rfl, ?_⟩
     rw [wrapF_eq]
     simp only [BitVec.toNat_xor, bits_nat]
     exact .int _ _
  | andNot =>
   cases a with
   | negSucc a => cases hf
   | ofNat a => cases b with
    | negSucc b => cases hf
    | ofNat b =>
     simp only [fOf, fBits, bitI, Option.some.injEq] at hf; subst hf
     refine ⟨_, by rw [binOp_andNot]; rfl, ?_⟩
     rw [wrapF_eq]
     simp only [BitVec.toNat_and, BitVec.toNat_not, bits_nat]
     exact .int _ _
end
end Go.Gev
namespace Go.Gev
open Go.RowKit
section
variable {P : Program} {cx : Cx} {o : Oper}
theorem snd_sh2 {op : BinOp} {t yt : TypeId} {x y : Operand} {x' y' : GX} (hop : op = .shl ∨ op = .shr) (ho : o.op = .binOp op t x y yt) (hx : gx cx x = some x') (hy : gx cx y = some y') : Snd P cx o (oV2 (sh2 op) x' y') :=
 snd_bin ho hx hy fun ρ w u u2 v v2 r hu hu2 e => by
  cases u with
  | int k a =>
   cases u2 with
   | int k' b =>
    obtain rfl := hu.int_inv
    obtain rfl := hu2.int_inv
    have hg : eqGuard op t x y (.int k a) (.int k' b) = pure () := by cases op <;> rfl
    rw [hg]
    simp only [Sem.run_bind, Sem.run_pure, Result.andThen_ok]
    replace e : shI op k a b = some r := e
    cases b with
    | negSucc b => rcases hop with rfl | rfl <;> cases e
    | ofNat n =>
     have hn : ¬ ((Int.ofNat n) < 0) := by simp
     have hmin : minN n k.bits = min n k.bits := minN_eq _ _
     rcases hop with rfl | rfl
     ·simp only [shI, Option.some.injEq] at e
      subst e
      refine ⟨_, by rw [binOp_shl]; simp only [Op.shift, if_neg hn]; rfl, ?_⟩
      rw [wrapF_eq, hmin]
      have : (Int.mul a (Int.ofNat (Nat.pow 2 (min n k.bits)))) = a * 2 ^ min (Int.ofNat n).toNat k.bits := by
       show a * ((2 ^ (min n k.bits) : Nat) : Int) = a * 2 ^ (min n k.bits)
       rw [Int.natCast_pow]; rfl
      rw [this]
      exact .int _ _
     ·have hp : (Int.ofNat (Nat.pow 2 (min n k.bits))) = 2 ^ min (Int.ofNat n).toNat k.bits := by
       show ((2 ^ (min n k.bits) : Nat) : Int) = 2 ^ (min n k.bits)
       rw [Int.natCast_pow]; rfl
      cases a with
      | ofNat m =>
       simp only [shI, Option.some.injEq] at e
       subst e
       refine ⟨_, by rw [binOp_shr]; simp only [Op.shift, if_neg hn]; rfl, ?_⟩
       rw [hmin, ← hp]
       have : (Int.ofNat m).fdiv (Int.ofNat (Nat.pow 2 (min n k.bits))) = Int.ofNat (Nat.div m (Nat.pow 2 (min n k.bits))) := by
        show Int.fdiv (m : Int) ((2 ^ (min n k.bits) : Nat) : Int) = ((m / 2 ^ (min n k.bits) : Nat) : Int)
        rw [Int.fdiv_eq_ediv_of_nonneg _ (Int.natCast_nonneg _)]; rfl
       rw [this]
       exact .int _ _
      | negSucc m =>
       simp only [shI, Option.some.injEq] at e
       subst e
       refine ⟨_, by rw [binOp_shr]; simp only [Op.shift, if_neg hn]; rfl, ?_⟩
       rw [hmin, ← hp]
       exact .int _ _
   | _ => cases e
  | _ => cases e
theorem eqL_eq : ∀ (a b : List UInt8), eqL a b = (a == b) := by
 intro a
 induction a with
 | nil => intro b; cases b <;> rfl
 | cons x a ih =>
  intro b
  cases b with
  | nil => rfl
  | cons y b =>
   simp only [eqL]
   by_cases h : x = y
   ·subst h; rw [beq_iff.2 rfl]; simp [ih]
   ·rw [beq_false.2 (fun e => h (UInt8.toNat_inj.1 e))]; simp [h]
theorem blt_eq (a b : Nat) : Nat.blt a b = decide (a < b) := by
 unfold Nat.blt; rw [ble_eq]; rfl
theorem ltL_eq : ∀ (a b : List UInt8), ltL a b = Op.bytesLess a b := by
 intro a
 induction a with
 | nil => intro b; cases b <;> rfl
 | cons x a ih =>
  intro b
  cases b with
  | nil => rfl
  | cons y b =>
   simp only [ltL, Op.bytesLess]
   rw [blt_eq]
   by_cases h : x < y
   ·have : x.toNat < y.toNat := UInt8.lt_iff_toNat_lt.1 h
    simp [h, this]
   ·have h1 : ¬ x.toNat < y.toNat := fun e => h (UInt8.lt_iff_toNat_lt.2 e)
    by_cases h2 : x = y
    ·subst h2; rw [beq_iff.2 rfl]; simp [h, ih]
    ·rw [beq_false.2 (fun e => h2 (UInt8.toNat_inj.1 e))]; simp [h, h1, h2]
theorem toList_data (a : ByteArray) : a.toList = a.data.toList := ByteArray.toList_eq a
theorem snd_s2 {op : BinOp} {t yt : TypeId} {x y : Operand} {x' y' : GX} (ho : o.op = .binOp op t x y yt) (hx : gx cx x = some x') (hy : gx cx y = some y') : Snd P cx o (oV2 (s2 op) x' y') :=
 snd_bin ho hx hy fun ρ w u u2 v v2 r hu hu2 e => by
  cases u with
  | string a => cases u2 with
   | string b =>
    obtain rfl := hu.string_inv
    obtain rfl := hu2.string_inv
    have hg : eqGuard op t x y (.string a) (.string b) = pure () := by cases op <;> rfl
    rw [hg]
    simp only [Sem.run_bind, Sem.run_pure, Result.andThen_ok]
    replace e : binS op a b = some r := e
    have hb : binOp op t (.string a) (.string b) = Op.stringOp op a b := by cases op <;> rfl
    rw [hb]
    cases op with
    | add =>
     simp only [binS] at e
     cases hl : Nat.ble (Nat.add a.size b.size) 9223372036854775807 with
     | false => rw [hl] at e; cases e
     | true =>
      rw [hl] at e
      injection e with e
      subst e
      have := Nat.le_of_ble_eq_true hl
      have hn : ¬ (((a.size + b.size : Nat) : Int) > IntKind.i64.max) := by
       rw [IntKind.max_i64]
       have h2 : a.size + b.size ≤ 9223372036854775807 := this
       omega
      exact ⟨_, by simp only [Op.stringOp, if_neg hn]; rfl, .string _⟩
    | eql => simp only [binS, Option.some.injEq] at e; subst e; exact ⟨_, by simp only [Op.stringOp]; rfl, by rw [eqL_eq, ← toList_data, ← toList_data]; exact .bool _⟩
    | neq =>
     simp only [binS, Option.some.injEq] at e; subst e
     refine ⟨_, by simp only [Op.stringOp]; rfl, ?_⟩
     rw [eqL_eq, ← toList_data, ← toList_data]
     have : notB (a.toList == b.toList) = !(a.toList == b.toList) := by cases (a.toList == b.toList) <;> rfl
     rw [this]; exact .bool _
    | lss => simp only [binS, Option.some.injEq] at e; subst e; exact ⟨_, by simp only [Op.stringOp]; rfl, by rw [ltL_eq, ← toList_data, ← toList_data]; exact .bool _⟩
    | leq =>
     simp only [binS, Option.some.injEq] at e; subst e
     refine ⟨_, by simp only [Op.stringOp]; rfl, ?_⟩
     rw [eqL_eq, ltL_eq, ← toList_data, ← toList_data]
     have : orB (Op.bytesLess a.toList b.toList) (a.toList == b.toList) = (Op.bytesLess a.toList b.toList || a.toList == b.toList) := by
      cases Op.bytesLess a.toList b.toList <;> rfl
     rw [this]; exact .bool _
    | gtr =>
     simp only [binS, Option.some.injEq] at e; subst e
     refine ⟨_, by simp only [Op.stringOp]; rfl, ?_⟩
     rw [eqL_eq, ltL_eq, ← toList_data, ← toList_data]
     have : notB (orB (Op.bytesLess a.toList b.toList) (a.toList == b.toList)) = !(Op.bytesLess a.toList b.toList || a.toList == b.toList) := by
      cases Op.bytesLess a.toList b.toList <;> cases (a.toList == b.toList) <;> rfl
     rw [this]; exact .bool _
    | geq =>
     simp only [binS, Option.some.injEq] at e; subst e
     refine ⟨_, by simp only [Op.stringOp]; rfl, ?_⟩
     rw [ltL_eq, ← toList_data, ← toList_data]
     have : notB (Op.bytesLess a.toList b.toList) = !(Op.bytesLess a.toList b.toList) := by cases Op.bytesLess a.toList b.toList <;> rfl
     rw [this]; exact .bool _
    | _ => cases e
   | _ => cases e
  | _ => cases e
theorem snd_un {op : UnOp} {t : TypeId} {x : Operand} {x' : GX} (ho : o.op = .unOp op t x) (hx : gx cx x = some x') : Snd P cx o (oUn op x') :=
 snd_still fun B ρ en h w a v h' E R e => by
  have hv := gx_VR E hx
  obtain ⟨e1, rfl⟩ := ret1_some (show ret1 h (un op (ev en x')) = _ from e)
  refine ⟨rfl, ?_⟩
  generalize ev en x' = u at hv e1
  cases op with
  | neg => cases u with
   | int k n =>
    have hq := hv.int_inv
    simp only [un, Option.some.injEq] at e1; subst e1
    refine ⟨_, by simp only [execOp, ho, hq, Op.unary, Op.intArith, Sem.run_bind, Sem.run_pure, Result.andThen_ok]; rfl, ?_⟩
    rw [wrapF_eq]; exact .int _ _
   | _ => cases e1
  | not => cases u with
   | bool b =>
    have hq := hv.bool_inv
    simp only [un, Option.some.injEq] at e1; subst e1
    refine ⟨.bool !b, by simp only [execOp, ho, hq, Op.unary, Sem.run_bind, Sem.run_pure, Result.andThen_ok], ?_⟩
    cases b <;> exact .bool _
   | _ => cases e1
  | xor => cases u with
   | int k n => cases k with
    | u64 => cases n with
     | ofNat n =>
      have hq := hv.int_inv
      simp only [un, Option.some.injEq] at e1; subst e1
      refine ⟨_, by simp only [execOp, ho, hq, Op.unary, Op.intBits, Sem.run_bind, Sem.run_pure, Result.andThen_ok]; rfl, ?_⟩
      rw [wrapF_eq]
      simp only [BitVec.toNat_xor, bits_nat]
      exact .int _ _
     | negSucc n => cases e1
    | _ => cases e1
   | _ => cases e1
  | plus => cases u <;> cases e1
theorem snd_convI {s d : TypeId} {k ks : IntKind} {x : Operand} {x' : GX} (ho : o.op = .convert s d x) (hs : P.underlying s = some (.int ks)) (hd : P.underlying d = some (.int k)) (hx : gx cx x = some x') : Snd P cx o (oConvI k x') :=
 snd_still fun B ρ en h w a v h' E R e => by
  have hv := gx_VR E hx
  obtain ⟨e1, rfl⟩ := ret1_some (show ret1 h (convI1 k (ev en x')) = _ from e)
  refine ⟨rfl, ?_⟩
  generalize ev en x' = u at hv e1
  cases u with
  | int k' n =>
   have hq := hv.int_inv
   simp only [convI1, Option.some.injEq] at e1; subst e1
   refine ⟨.int k (k.wrap n), by simp only [execOp, ho, hq, convert, Conv.intToInt, under_run hs, under_run hd, Sem.run_bind, Sem.run_pure, Result.andThen_ok], ?_⟩
   rw [wrapF_eq]; exact .int _ _
  | _ => cases e1
theorem snd_mkface {t : TypeId} {d : TypeDesc} {x : Operand} {x' : GX} (ho : o.op = .makeInterface t x) (hd : P.underlying t = some d) (hn : ∀ ms, d ≠ .interface ms) (hx : gx cx x = some x') : Snd P cx o (oMkface t x') :=
 snd_still fun B ρ en h w a v h' E R e => by
  simp only [oMkface, Option.some.injEq, Prod.mk.injEq] at e
  obtain ⟨rfl, rfl⟩ := e
  refine ⟨rfl, .iface t (a.eval x), ?_, .iface t _ _ (gx_VR E hx)⟩
  simp only [execOp, ho, Instr.makeInterface, Sem.run_bind, under_run hd, Result.andThen_ok]
  cases d <;> first | rfl | exact absurd rfl (hn _)
theorem snd_mkfunc {fn : Fn} {first captured : Array Operand} {f' c' : List GX} (ho : o.op = .makeFunc fn first captured) (hf : gxs cx first.toList = some f') (hc : gxs cx captured.toList = some c') : Snd P cx o (oMkfunc fn f' c') :=
 snd_still fun B ρ en h w a v h' E R e => by
  cases fn with
  | func f =>
  simp only [oMkfunc, Option.some.injEq, Prod.mk.injEq] at e
  obtain ⟨rfl, rfl⟩ := e
  have g1 := VL.get (ρ := ρ) (xs := (evL en f').toArray) (ys := first.map a.eval) (by simpa using gxs_VL E hf)
  have g2 := VL.get (ρ := ρ) (xs := (evL en c').toArray) (ys := captured.map a.eval) (by simpa using gxs_VL E hc)
  exact ⟨rfl, _, by simp only [execOp, ho, Instr.makeFunc, Sem.run_bind, Sem.run_pure, Result.andThen_ok], .func _ _ _ _ _ (fun l e => by cases e) g1.1 g1.2 g2.1 g2.2⟩
  | _ => cases e
theorem snd_extr {x : Operand} {x' : GX} {i : Nat} (ho : o.op = .extract x i) (hx : gx cx x = some x') : Snd P cx o (oExtr x' i) :=
 snd_still fun B ρ en h w a v h' E R e => by
  have hv := gx_VR E hx
  obtain ⟨e1, rfl⟩ := ret1_some (show ret1 h (extr1 i (ev en x')) = _ from e)
  refine ⟨rfl, ?_⟩
  generalize ev en x' = u at hv e1
  cases u with
  | tuple vs =>
   obtain ⟨ys, hq, hl⟩ := hv.tuple_inv
   have key : ∀ (l : List Value) (j : Nat), nthV l j = l[j]? := by
    intro l
    induction l with
    | nil => intro j; rfl
    | cons u l ih => intro j; cases j with
     | zero => rfl
     | succ j => simpa [nthV] using ih j
   simp only [extr1, key] at e1
   have hi : i < vs.toList.length := (List.getElem?_eq_some_iff.1 e1).1
   have hi2 : i < ys.toList.length := by rw [← hl.1]; exact hi
   have hys : ys[i]? = some ys.toList[i] := by simp at hi2; simp [hi2]
   exact ⟨ys.toList[i], by simp only [execOp, ho, hq, Instr.extract, hys, Sem.run_bind, Sem.run_pure, Result.andThen_ok], hl.2 i _ _ e1 (List.getElem?_eq_getElem hi2)⟩
  | _ => cases e1
theorem snd_fieldA {t : TypeId} {fs : Array Field} {f : Field} {k s : Nat} {x : Operand} {x' : GX} (ho : o.op = .fieldAddr t x k) (ht : P.underlying t = some (.struct fs)) (hk : fs[k]? = some f) (hs : sizeOfT P f.type = some s) (hs0 : s ≠ 0) (hx : gx cx x = some x') : Snd P cx o (oFieldA f.offset x') :=
 snd_still fun B ρ en h w a v h' E R e => by
  have hv := gx_VR E hx
  obtain ⟨e1, rfl⟩ := ret1_some (show ret1 h (fieldA1 f.offset (addrOf (ev en x'))) = _ from e)
  refine ⟨rfl, ?_⟩
  cases hp : addrOf (ev en x') with
  | none => rw [hp] at e1; cases e1
  | some p =>
   rw [hp] at e1
   obtain ⟨H, hH, _, hax⟩ := addrOf_VR hv hp
   simp only [fieldA1, Option.some.injEq] at e1
   subst e1
   refine ⟨.pointer (some ⟨H.blk, H.off + (p.2 + f.offset), none⟩), ?_, .ptr p.1 _ H hH⟩
   simp only [execOp, ho, hax, Instr.fieldAt, Instr.sureAddr, fieldPlace, under_run ht, hk, size_run hs, Sem.run_bind, Sem.run_pure, Result.andThen_ok, if_neg hs0, add_block, Nat.add_assoc]
theorem snd_lenS {c : Call} {x : Operand} {x' : GX} {t : TypeId} (ho : o.op = .call c) (hc : c.callee = .builtin .len) (ha : c.args = #[x]) (hat : c.argTypes[0]? = some t) (ht : P.underlying t = some .string) (hx : gx cx x = some x') : Snd P cx o (oLenS x') :=
 snd_still fun B ρ en h w a v h' E R e => by
  have hv := gx_VR E hx
  obtain ⟨e1, rfl⟩ := ret1_some (show ret1 h (lenS1 (ev en x')) = _ from e)
  refine ⟨rfl, ?_⟩
  generalize ev en x' = u at hv e1
  cases u with
  | string s =>
   have hq := hv.string_inv
   simp only [lenS1, Option.some.injEq] at e1; subst e1
   refine ⟨.int .i64 (s.size : Int), ?_, .int _ _⟩
   simp [execOp, ho, resolve, hc, ha, invoke, builtin, Builtin.len_, hat, under_run ht, hq, goInt]
  | _ => cases e1
theorem snd_lenV {c : Call} {x : Operand} {x' : GX} {t e0 : TypeId} (ho : o.op = .call c) (hc : c.callee = .builtin .len) (ha : c.args = #[x]) (hat : c.argTypes[0]? = some t) (ht : P.underlying t = some (.slice e0)) (hx : gx cx x = some x') : Snd P cx o (oLenV x') :=
 snd_still fun B ρ en h w a v h' E R e => by
  have hv := gx_VR E hx
  obtain ⟨e1, rfl⟩ := ret1_some (show ret1 h (lenV1 (ev en x')) = _ from e)
  refine ⟨rfl, ?_⟩
  generalize ev en x' = u at hv e1
  generalize hq : a.eval x = u' at hv
  cases hv with
  | nilslice =>
   simp only [lenV1, Option.some.injEq] at e1; subst e1
   exact ⟨.int .i64 ((0 : Nat) : Int), by simp [execOp, ho, resolve, hc, ha, invoke, builtin, Builtin.len_, hat, under_run ht, hq, goInt], .int _ _⟩
  | slice id off n c c' H h1 h2 h3 h4 h5 =>
   simp only [lenV1, Option.some.injEq] at e1; subst e1
   exact ⟨.int .i64 (n : Int), by simp [execOp, ho, resolve, hc, ha, invoke, builtin, Builtin.len_, hat, under_run ht, hq, goInt], .int _ _⟩
  | empty b o1 k a' c' =>
   simp only [lenV1, Option.some.injEq] at e1; subst e1
   exact ⟨.int .i64 ((0 : Nat) : Int), by simp [execOp, ho, resolve, hc, ha, invoke, builtin, Builtin.len_, hat, under_run ht, hq, goInt], .int _ _⟩
  | _ => cases e1
theorem snd_lenC {c : Call} {x : Operand} {t e0 : TypeId} {n : Nat} (ho : o.op = .call c) (hc : c.callee = .builtin .len) (ha : c.args = #[x]) (hat : c.argTypes[0]? = some t) (ht : P.underlying t = some (.array n e0)) : Snd P cx o (oLenC n) :=
 snd_still fun B ρ en h w a v h' E R e => by
  simp only [oLenC, Option.some.injEq, Prod.mk.injEq] at e
  obtain ⟨rfl, rfl⟩ := e
  exact ⟨rfl, .int .i64 (n : Int), by simp [execOp, ho, resolve, hc, ha, invoke, builtin, Builtin.len_, hat, under_run ht, goInt], .int _ _⟩
theorem snd_capV {c : Call} {x : Operand} {x' : GX} {t e0 : TypeId} (ho : o.op = .call c) (hc : c.callee = .builtin .cap) (ha : c.args = #[x]) (hat : c.argTypes[0]? = some t) (ht : P.underlying t = some (.slice e0)) (hx : gx cx x = some x') : Snd P cx o (oCapV x') :=
 snd_still fun B ρ en h w a v h' E R e => by
  have hv := gx_VR E hx
  obtain ⟨e1, rfl⟩ := ret1_some (show ret1 h (capV1 (ev en x')) = _ from e)
  refine ⟨rfl, ?_⟩
  generalize ev en x' = u at hv e1
  generalize hq : a.eval x = u' at hv
  cases hv with
  | nilslice =>
   simp only [capV1, Option.some.injEq] at e1; subst e1
   exact ⟨.int .i64 ((0 : Nat) : Int), by simp [execOp, ho, resolve, hc, ha, invoke, builtin, Builtin.cap_, hat, under_run ht, hq, goInt], .int _ _⟩
  | _ => cases e1
theorem snd_minmax {c : Call} {xs : List GX} {mx : Bool} (ho : o.op = .call c) (hc : c.callee = .builtin (if mx then .max else .min)) (hx : gxs cx c.args.toList = some xs) : Snd P cx o (oMinmax mx xs) :=
 snd_still fun B ρ en h w a v h' E R e => by
  have hv := gxs_VL E hx
  obtain ⟨e1, rfl⟩ := ret1_some (show ret1 h (mm1 mx (evL en xs)) = _ from e)
  refine ⟨rfl, ?_⟩
  generalize evL en xs = us at hv e1
  match us, e1 with
  | [.int k m, .int k2 n], e1 =>
   obtain ⟨y, zs, hq, h1, h2⟩ := hv.head
   obtain ⟨y2, zs2, hq2, h3, h4⟩ := h2.head
   obtain rfl := h1.int_inv
   obtain rfl := h3.int_inv
   obtain rfl := h4.nil_left
   subst hq2
   cases mx with
   | true =>
    simp only [mm1, Option.some.injEq] at e1; subst e1
    refine ⟨.int k (if n > m then n else m), ?_, ?_⟩
    ·have : c.args.map a.eval = #[.int k m, .int k2 n] := by apply Array.ext'; simpa using hq
     simp [execOp, ho, resolve, hc, invoke, builtin, Builtin.max_, this, Builtin.max2]
    ·rw [ltI_eq]
     by_cases hlt : m < n
     ·simp [hlt]; exact .int _ _
     ·simp [hlt]; exact .int _ _
   | false =>
    simp only [mm1, Option.some.injEq] at e1; subst e1
    refine ⟨.int k (if n < m then n else m), ?_, ?_⟩
    ·have : c.args.map a.eval = #[.int k m, .int k2 n] := by apply Array.ext'; simpa using hq
     simp [execOp, ho, resolve, hc, invoke, builtin, Builtin.min_, this, Builtin.min2]
    ·rw [ltI_eq]
     by_cases hlt : n < m
     ·simp [hlt]; exact .int _ _
     ·simp [hlt]; exact .int _ _
end
end Go.Gev
namespace Go.Gev
open Go.RowKit
section
variable {P : Program} {cx : Cx} {o : Oper}
theorem rep_get {z : List Value} : ∀ (n i : Nat), 0 < z.length → (rep z n)[i]? = if i < n * z.length then z[i % z.length]? else none := by
 intro n
 induction n with
 | zero => intro i _; simp [rep]
 | succ n ih =>
  intro i hz
  simp only [rep]
  by_cases hi : i < z.length
  ·rw [List.getElem?_append_left hi, Nat.mod_eq_of_lt hi, if_pos (by rw [Nat.succ_mul]; omega)]
  ·rw [List.getElem?_append_right (by omega), ih _ hz]
   have e : (i - z.length) % z.length = i % z.length := by
    conv => rhs; rw [show i = (i - z.length) + z.length from by omega, Nat.add_mod_right]
   rw [e]
   by_cases h2 : i - z.length < n * z.length
   ·rw [if_pos h2, if_pos (by rw [Nat.succ_mul]; omega)]
   ·rw [if_neg h2, if_neg (by rw [Nat.succ_mul]; omega)]
theorem rep_length {z : List Value} (n : Nat) : (rep z n).length = n * z.length := by
 induction n with
 | zero => simp [rep]
 | succ n ih => simp [rep, ih, Nat.succ_mul]; omega
theorem madeCells_rep (z : Array Value) (n : Nat) (hz : 0 < z.size) : (madeCells z (n * z.size)).toList = rep z.toList n := by
 apply List.ext_getElem?
 intro i
 rw [rep_get n i (by simpa using hz)]
 simp only [madeCells, Array.toList_map, Array.toList_range, List.getElem?_map, Array.length_toList]
 by_cases hi : i < n * z.size
 ·have hm : i % z.size < z.size := Nat.mod_lt _ hz
  rw [if_pos hi, List.getElem?_range hi]
  simp [hm]
 ·rw [if_neg hi, List.getElem?_eq_none (by simp; omega)]
  rfl
theorem VL.rep {ρ : Ren} {z : List Value} (h : okCL z = true) (n : Nat) : VL ρ (rep z n) (Gev.rep z n) := by
 induction n with
 | zero => exact VL.nil
 | succ n ih => exact VL.append (okCL_VL h) ih
theorem snd_mkslice {t e : TypeId} {u b : Nat} {z : List Value} {l c : Operand} {l' c' : GX} (ho : o.op = .makeSlice t l c) (ht : P.underlying t = some (.slice e)) (hu : sizeOfT P e = some u) (hu0 : u ≠ 0) (hb : bytesOfT P e = some b) (hb0 : b ≠ 0)
 (hz : zeroOf P e = some z) (hl : gx cx l = some l') (hc : gx cx c = some c') : Snd P cx o (oMkslice e u b z l' c') := fun B ρ en h w a v h' E R hg => by
 unfold oMkslice at hg
 cases hnl : natOf (ev en l') with
 | none => rw [hnl] at hg; cases hg
 | some ln =>
  cases hnc : natOf (ev en c') with
  | none => rw [hnl, hnc] at hg; cases hg
  | some cn =>
   rw [hnl, hnc] at hg
   simp only [mkslice1] at hg
   cases h1 : Nat.ble ln cn with
   | false => rw [h1] at hg; cases hg
   | true =>
    rw [h1] at hg
    cases h2 : Nat.ble (Nat.mul b cn) 281474976710656 with
    | false => rw [h2] at hg; cases hg
    | true =>
     rw [h2] at hg
     simp only [Option.some.injEq, Prod.mk.injEq] at hg
     obtain ⟨rfl, rfl⟩ := hg
     obtain ⟨kl, _, hql⟩ := natOf_VR (gx_VR E hl) hnl
     obtain ⟨kc, _, hqc⟩ := natOf_VR (gx_VR E hc) hnc
     obtain ⟨i, zv, hi, hiz, hzc, hok, hzs⟩ := zeroOf_some hz
     have hiu : i.size = u := by unfold sizeOfT at hu; rw [hi] at hu; injection hu
     have hib : i.bytes = b := by unfold bytesOfT at hb; rw [hi] at hb; injection hb
     have hlc := Nat.le_of_ble_eq_true h1
     have hbc : b * cn ≤ 281474976710656 := Nat.le_of_ble_eq_true h2
     have hcn : cn ≤ 281474976710656 := Nat.le_trans (Nat.le_mul_of_pos_left cn (by omega)) hbc
     have hbi : (b : Int) * (cn : Int) ≤ 281474976710656 := by
      have h9 : ((b * cn : Nat) : Int) ≤ 281474976710656 := by omega
      rwa [Int.natCast_mul] at h9
     have hr := run_make (P := P) w t e i zv ht hi hiz kl kc (ln : Int) (cn : Int) (by omega) (by omega) (by rw [hib]; exact hbi) (by omega)
     simp only [Int.toNat_natCast] at hr
     rw [hiu] at hr
     have hmc : (madeCells zv.cells (cn * u)).toList = rep z cn := by
      rw [← hiu, ← hzs, madeCells_rep _ _ (by omega), hzc]
     have hsz : (madeCells zv.cells (cn * u)).size = cn * u := size_madeCells _ _
     refine ⟨.slice (some ⟨w.heap.size, 0, none⟩) ln cn, _, _, .inl ?_, ?_, step_new (w := w) R rfl rfl rfl rfl e u (rep z cn) (madeCells zv.cells (cn * u)) (rep z cn) (VL.rep hok cn) ?_⟩
     ·simp only [execOp, ho, hql, hqc, Sem.run_bind, hr, Result.andThen_ok, Sem.run_pure]
     ·refine .slice h.nx 0 ln cn cn _ (Ren.add_same _ _ _) hlc (Nat.le_refl _) (Nat.le_trans hcn (by unfold maxLen; omega)) (.inr ?_)
      simp only [Nat.zero_add, hsz]
      exact Nat.le_refl _
     ·rw [hmc, List.take_of_length_le (Nat.le_refl _)]
theorem gxo_cases {x : Option Operand} {y : Option GX} (h : gxo cx x = some y) : (x = none ∧ y = none) ∨ ∃ x1 y1, x = some x1 ∧ y = some y1 ∧ gx cx x1 = some y1 := by
 cases x with
 | none => simp only [gxo, Option.some.injEq] at h; subst h; exact .inl ⟨rfl, rfl⟩
 | some x1 =>
  simp only [gxo] at h
  cases h1 : gx cx x1 with
  | none => rw [h1] at h; cases h
  | some y1 => rw [h1] at h; injection h with h; subst h; exact .inr ⟨x1, y1, rfl, rfl, h1⟩
theorem top1_some {top : Nat} {x : Option Nat} {n : Nat} (h : top1 top x = some n) : x = some n ∧ n ≤ top := by
 cases x with
 | none => cases h
 | some m =>
  simp only [top1] at h
  cases hb : Nat.ble m top with
  | false => rw [hb] at h; cases h
  | true => rw [hb] at h; injection h with h; subst h; exact ⟨rfl, Nat.le_of_ble_eq_true hb⟩
theorem bnd_spec {ρ : Ren} {en : En} {a : Act} (E : EnR ρ cx en a.tmps) {x : Option Operand} {y : Option GX} (h : gxo cx x = some y) {d top n : Nat} (hb : bnd en d top y = some n) :
 (x = none ∧ n = d) ∨ ∃ x1 k, x = some x1 ∧ a.eval x1 = .int k (n : Int) ∧ n ≤ top := by
 rcases gxo_cases h with ⟨rfl, rfl⟩ | ⟨x1, y1, rfl, rfl, h1⟩
 ·simp only [bnd, Option.some.injEq] at hb; exact .inl ⟨rfl, hb.symm⟩
 ·obtain ⟨e1, e2⟩ := top1_some (show top1 top (natOf (ev en y1)) = some n from hb)
  obtain ⟨k, _, hq⟩ := natOf_VR (gx_VR E h1) e1
  exact .inr ⟨x1, k, rfl, hq, e2⟩
theorem bound_run {w : World} {k : IntKind} {n top : Nat} {code : Go.BoundsCode} (hn : n ≤ top) : (Instr.sliceBound (.int k (n : Int)) top code).run P w = .ok n w := by
 have : (0 : Int) ≤ n ∧ (n : Int) ≤ top := by omega
 simp [Instr.sliceBound, asIntOf, this]
theorem bounds_run {w : World} {ρ : Ren} {en : En} {a : Act} (E : EnR ρ cx en a.tmps) {lo hi mx : Option Operand} {lo' hi' mx' : Option GX} (hlo : gxo cx lo = some lo') (hhi : gxo cx hi = some hi') (hmx : gxo cx mx = some mx')
 {len cap cap2 m hh l : Nat} (hlc : len ≤ cap) (hcc : cap ≤ cap2) (h1 : bnd en cap cap mx' = some m) (h2 : bnd en len m hi' = some hh) (h3 : bnd en 0 hh lo' = some l) (isS : Bool) (hmh : mx = none ∨ hi ≠ none) :
 ∃ m2, (Instr.sliceBounds isS len cap2 (lo.map a.eval) (hi.map a.eval) (mx.map a.eval)).run P w = .ok (l, hh, m2) w ∧ m ≤ m2 ∧ m2 ≤ cap2 ∧ hh ≤ m ∧ l ≤ hh := by
 have hm2 : ∃ m2, m ≤ m2 ∧ m2 ≤ cap2 ∧ ((mx = none ∧ m2 = cap2 ∧ m = cap) ∨ ∃ x1 k, mx = some x1 ∧ a.eval x1 = .int k (m2 : Int) ∧ m2 = m) := by
  rcases bnd_spec E hmx h1 with ⟨rfl, rfl⟩ | ⟨x1, k, rfl, hq, hle⟩
  ·exact ⟨cap2, hcc, Nat.le_refl _, .inl ⟨rfl, rfl, rfl⟩⟩
  ·exact ⟨m, Nat.le_refl _, by omega, .inr ⟨x1, k, rfl, hq, rfl⟩⟩
 obtain ⟨m2, hm2a, hm2b, hm2c⟩ := hm2
 have hl : l ≤ hh ∧ ((lo = none ∧ l = 0) ∨ ∃ x1 k, lo = some x1 ∧ a.eval x1 = .int k (l : Int)) := by
  rcases bnd_spec E hlo h3 with ⟨rfl, rfl⟩ | ⟨x1, k, rfl, hq, hle⟩
  ·exact ⟨Nat.zero_le _, .inl ⟨rfl, rfl⟩⟩
  ·exact ⟨hle, .inr ⟨x1, k, rfl, hq⟩⟩
 have hhm : hh ≤ m ∧ ((hi = none ∧ hh = len) ∨ ∃ x1 k, hi = some x1 ∧ a.eval x1 = .int k (hh : Int)) := by
  rcases bnd_spec E hhi h2 with ⟨rfl, rfl⟩ | ⟨x1, k, rfl, hq, hle⟩
  ·refine ⟨?_, .inl ⟨rfl, rfl⟩⟩
   rcases hm2c with ⟨_, _, rfl⟩ | ⟨x1, k, rfl, _, _⟩
   ·exact hlc
   ·rcases hmh with hmh | hmh
    ·cases hmh
    ·exact absurd rfl hmh
  ·exact ⟨hle, .inr ⟨x1, k, rfl, hq⟩⟩
 refine ⟨m2, ?_, hm2a, hm2b, hhm.1, hl.1⟩
 unfold Instr.sliceBounds
 rcases hm2c with ⟨rfl, rfl, _⟩ | ⟨xm, km, rfl, hqm, rfl⟩
 ·rcases hhm.2 with ⟨rfl, rfl⟩ | ⟨xh, kh, rfl, hqh⟩
  ·rcases hl.2 with ⟨rfl, rfl⟩ | ⟨xl, kl, rfl, hql⟩
   ·simp
   ·simp [hql, bound_run hl.1]
  ·rcases hl.2 with ⟨rfl, rfl⟩ | ⟨xl, kl, rfl, hql⟩
   ·simp [hqh, bound_run (show hh ≤ m2 from by omega)]
   ·simp [hqh, hql, bound_run (show hh ≤ m2 from by omega), bound_run hl.1]
 ·rcases hhm.2 with ⟨rfl, rfl⟩ | ⟨xh, kh, rfl, hqh⟩
  ·rcases hmh with hmh | hmh
   ·cases hmh
   ·exact absurd rfl hmh
  ·rcases hl.2 with ⟨rfl, rfl⟩ | ⟨xl, kl, rfl, hql⟩
   ·simp [hqm, hqh, bound_run (show hh ≤ m2 from by omega), bound_run hm2b]
   ·simp [hqm, hqh, hql, bound_run (show hh ≤ m2 from by omega), bound_run hm2b, bound_run hl.1]
theorem snd_slice {t e : TypeId} {u : Nat} {x : Operand} {x' : GX} {lo hi mx : Option Operand} {lo' hi' mx' : Option GX} (ho : o.op = .slice t x lo hi mx) (ht : P.underlying t = some (.slice e)) (hu : sizeOfT P e = some u)
 (hx : gx cx x = some x') (hlo : gxo cx lo = some lo') (hhi : gxo cx hi = some hi') (hmx : gxo cx mx = some mx') (hmh : mx = none ∨ hi ≠ none) : Snd P cx o (oSlice u x' lo' hi' mx') :=
 snd_still fun B ρ en h w a v h' E R e0 => by
  have hv := gx_VR E hx
  obtain ⟨e1, rfl⟩ := ret1_some (show ret1 h (slice1 h u en lo' hi' mx' (ev en x')) = _ from e0)
  refine ⟨rfl, ?_⟩
  generalize ev en x' = s at hv e1
  generalize hq : a.eval x = s' at hv
  cases s with
  | slice sa len cap =>
   simp only [slice1] at e1
   cases h1 : bnd en cap cap mx' with
   | none => rw [h1] at e1; cases e1
   | some m =>
    rw [h1] at e1
    simp only [slice2] at e1
    cases h2 : bnd en len m hi' with
    | none => rw [h2] at e1; cases e1
    | some hh =>
     rw [h2] at e1
     simp only [slice3] at e1
     cases h3 : bnd en 0 hh lo' with
     | none => rw [h3] at e1; cases e1
     | some l =>
      rw [h3] at e1
      have hrun : ∀ (a2 : Option Addr) (cap2 : Nat), len ≤ cap → cap ≤ cap2 → a.eval x = .slice a2 len cap2 → ∃ m2, m ≤ m2 ∧ m2 ≤ cap2 ∧ hh ≤ m ∧ l ≤ hh ∧
       (execOp a.eval o).run P w = .ok (.value (.slice (if m2 = l then a2 else a2.map (·.add (l * u))) (hh - l) (m2 - l))) w := fun a2 cap2 g1 g2 g3 => by
       obtain ⟨m2, q1, q2, q3, q4, q5⟩ := bounds_run (P := P) (w := w) E hlo hhi hmx g1 g2 h1 h2 h3 true hmh
       refine ⟨m2, q2, q3, q4, q5, ?_⟩
       simp only [execOp, ho, g3, Instr.sliceAt, Instr.slice, under_run ht, Sem.run_bind, Result.andThen_ok, q1, size_run hu, Sem.run_pure]
      cases hv with
      | nilslice =>
       obtain ⟨m2, q2, q3, q4, q5, q6⟩ := hrun none 0 (Nat.le_refl _) (Nat.le_refl _) hq
       simp only [cutA] at e1
       cases hb : Nat.beq hh 0 with
       | false => rw [hb] at e1; cases e1
       | true =>
        rw [hb] at e1
        injection e1 with e1
        subst e1
        refine ⟨_, q6, ?_⟩
        have e2 : m2 = 0 := by omega
        have e3 : l = 0 := by omega
        have e4 : hh = 0 := by omega
        subst e2; subst e3; subst e4
        exact .nilslice
      | empty b0 o0 k0 a1 c1 hc1 =>
       obtain ⟨m2, q2, q3, q4, q5, q6⟩ := hrun (some a1) c1 (Nat.le_refl _) (Nat.zero_le _) hq
       simp only [cutA] at e1
       cases hb : Nat.beq hh 0 with
       | false => rw [hb] at e1; cases e1
       | true =>
        rw [hb] at e1
        injection e1 with e1
        subst e1
        refine ⟨_, q6, ?_⟩
        have e4 : hh = 0 := Nat.eq_of_beq_eq_true hb
        have e3 : l = 0 := by omega
        subst e3; subst e4
        by_cases hm : m2 = 0
        ·subst hm; exact .empty _ _ _ _ _ (Nat.zero_le _)
        ·simp only [if_neg hm, Option.map_some]
         exact .empty _ _ _ _ _ (by omega)
      | slice id off _ _ c1 H g1 g2 g3 g4 g5 =>
       obtain ⟨m2, q2, q3, q4, q5, q6⟩ := hrun _ c1 g2 g3 hq
       simp only [cutA, cutB] at e1
       cases hb : Nat.beq l 0 with
       | true =>
        rw [hb] at e1
        injection e1 with e1
        subst e1
        have e3 : l = 0 := Nat.eq_of_beq_eq_true hb
        subst e3
        refine ⟨_, q6, ?_⟩
        have : (if m2 = 0 then some (⟨H.blk, H.off + off, none⟩ : Addr) else (some (⟨H.blk, H.off + off, none⟩ : Addr)).map (·.add (0 * u))) = some ⟨H.blk, H.off + off, none⟩ := by
         split
         ·rfl
         ·simp [Addr.add]
        rw [this]
        refine .slice id off hh m m2 H g1 q4 q2 (by omega) ?_
        rcases g5 with g5 | g5
        ·exact .inl g5
        ·exact .inr (Nat.le_trans (by have := Nat.mul_le_mul_right H.un q3; omega) g5)
       | false =>
        rw [hb] at e1
        have hl0 : l ≠ 0 := beq_false.1 hb
        cases hb2 : Nat.beq hh l with
        | true =>
         rw [hb2] at e1
         injection e1 with e1
         subst e1
         have e4 : hh = l := Nat.eq_of_beq_eq_true hb2
         subst e4
         refine ⟨_, q6, ?_⟩
         rw [Nat.sub_self]
         by_cases hm : m2 = hh
         ·rw [if_pos hm]; exact .empty _ _ _ _ _ (by omega)
         ·rw [if_neg hm, Option.map_some]; exact .empty _ _ _ _ _ (by omega)
        | false =>
         rw [hb2] at e1
         have hne : hh ≠ l := beq_false.1 hb2
         cases hu1 : unitOk u (h'.hp.get id) with
         | false => simp only [hu1] at e1; cases e1
         | true =>
          simp only [hu1, Option.some.injEq] at e1
          subst e1
          refine ⟨_, q6, ?_⟩
          rw [if_neg (by omega), Option.map_some, add_block]
          have hun : H.un = 0 ∨ H.un = u := by
           cases hg : h'.hp.get id with
           | none => rw [hg] at hu1; cases hu1
           | some b => cases b with
            | mp => rw [hg] at hu1; cases hu1
            | it => rw [hg] at hu1; cases hu1
            | lp => rw [hg] at hu1; cases hu1
            | row c n e2 ub rw_ fl =>
             rw [hg] at hu1
             obtain ⟨H2, arr, fz, r1, r2, _⟩ := R.has id _ hg
             rw [g1] at r1
             injection r1 with r1
             subst r1
             simp only [unitOk] at hu1
             rw [r2]
             cases hz : Nat.beq ub 0 with
             | true => exact .inl (Nat.eq_of_beq_eq_true hz)
             | false => rw [hz] at hu1; exact .inr (Nat.eq_of_beq_eq_true hu1)
          have : (⟨H.blk, H.off + off + l * u, none⟩ : Addr) = ⟨H.blk, H.off + (off + l * u), none⟩ := by rw [Nat.add_assoc]
          rw [this]
          refine .slice id (off + l * u) (hh - l) (m - l) (m2 - l) H g1 (Nat.sub_le_sub_right q4 l) (Nat.sub_le_sub_right q2 l) (by omega) ?_
          rcases g5 with g5 | g5
          ·exact .inl g5
          ·rcases hun with hun | hun
           ·exact .inl hun
           ·refine .inr (Nat.le_trans ?_ g5)
            rw [hun, Nat.sub_mul]
            have h5 : l * u ≤ m2 * u := Nat.mul_le_mul_right u (by omega)
            have h6 : m2 * u ≤ c1 * u := Nat.mul_le_mul_right u q3
            omega
  | _ => cases e1
end
end Go.Gev
namespace Go.Gev
open Go.RowKit
section
variable {P : Program} {cx : Cx} {o : Oper}
theorem snd_cutstr {t : TypeId} {x : Operand} {x' : GX} {lo hi : Option Operand} {lo' hi' : Option GX} (ho : o.op = .slice t x lo hi none) (ht : P.underlying t = some .string)
 (hx : gx cx x = some x') (hlo : gxo cx lo = some lo') (hhi : gxo cx hi = some hi') : Snd P cx o (oCutstr x' lo' hi') :=
 snd_still fun B ρ en h w a v h' E R e0 => by
  have hv := gx_VR E hx
  obtain ⟨e1, rfl⟩ := ret1_some (show ret1 h (cutstr1 en lo' hi' (ev en x')) = _ from e0)
  refine ⟨rfl, ?_⟩
  generalize ev en x' = s at hv e1
  cases s with
  | string s =>
   have hq := hv.string_inv
   simp only [cutstr1] at e1
   cases h2 : bnd en s.size s.size hi' with
   | none => rw [h2] at e1; cases e1
   | some hh =>
    rw [h2] at e1
    simp only [cutstr2] at e1
    cases h3 : bnd en 0 hh lo' with
    | none => rw [h3] at e1; cases e1
    | some l =>
     rw [h3] at e1
     injection e1 with e1
     subst e1
     obtain ⟨m2, q1, _⟩ := bounds_run (P := P) (w := w) (mx := none) (mx' := none) E hlo hhi rfl (Nat.le_refl s.size) (Nat.le_refl s.size) rfl h2 h3 false (.inl rfl)
     refine ⟨.string (s.extract l hh), ?_, .string _⟩
     have hq2 : (Instr.sliceBounds false s.size s.size (lo.map a.eval) (hi.map a.eval) none).run P w = .ok (l, hh, m2) w := q1
     simp [execOp, ho, hq, Instr.sliceAt, Instr.slice, under_run ht, hq2]
  | _ => cases e1
theorem idxA2_some {u len : Nat} {a : Option Addr} {i : Option Nat} {v : Value} (h : idxA2 u len a i = some v) :
 ∃ k b o1, i = some k ∧ k < len ∧ a = some ⟨b, o1, none⟩ ∧ v = .pointer (some ⟨b, o1 + k * u, none⟩) := by
 cases i with
 | none => cases h
 | some k =>
  simp only [idxA2] at h
  cases hb : Nat.blt k len with
  | false => rw [hb] at h; cases h
  | true =>
   rw [hb] at h
   rw [blt_eq] at hb
   cases a with
   | none => cases h
   | some a =>
    obtain ⟨b, o1, sp⟩ := a
    cases sp with
    | some s => cases h
    | none => injection h with h; subst h; exact ⟨k, b, o1, rfl, by simpa using hb, rfl, rfl⟩
theorem snd_idxA {t e : TypeId} {u : Nat} {x i : Operand} {x' i' : GX} (ho : o.op = .indexAddr t x i) (ht : P.underlying t = some (.slice e)) (hu : sizeOfT P e = some u) (hx : gx cx x = some x') (hi : gx cx i = some i') : Snd P cx o (oIdxA u x' i') :=
 snd_still fun B ρ en h w a v h' E R e0 => by
  have hv := gx_VR E hx
  obtain ⟨e1, rfl⟩ := ret1_some (show ret1 h (idxA1 u (natOf (ev en i')) (ev en x')) = _ from e0)
  refine ⟨rfl, ?_⟩
  generalize ev en x' = s at hv e1
  generalize hq : a.eval x = s' at hv
  cases s with
  | slice sa len cap =>
   obtain ⟨k, b, o1, hk, hlt, rfl, rfl⟩ := idxA2_some (show idxA2 u len sa (natOf (ev en i')) = some v from e1)
   obtain ⟨ki, _, hqi⟩ := natOf_VR (gx_VR E hi) hk
   cases hv with
   | slice id off _ _ c1 H g1 g2 g3 g4 g5 =>
    refine ⟨.pointer (some ⟨H.blk, H.off + (o1 + k * u), none⟩), ?_, .ptr b _ H g1⟩
    have hin : (0 : Int) ≤ (k : Int) ∧ (k : Int) < (len : Int) := by omega
    simp [execOp, ho, hq, hqi, Instr.indexAt, asIntOf, under_run ht, hlt, size_run hu, add_block, Nat.add_assoc]
  | _ => cases e1
theorem snd_idxArr {t e : TypeId} {u n : Nat} {x i : Operand} {x' i' : GX} (ho : o.op = .indexAddr t x i) (ht : P.underlying t = some (.array n e)) (hu : sizeOfT P e = some u) (hx : gx cx x = some x') (hi : gx cx i = some i') : Snd P cx o (oIdxArr u n x' i') :=
 snd_still fun B ρ en h w a v h' E R e0 => by
  have hv := gx_VR E hx
  obtain ⟨e1, rfl⟩ := ret1_some (show ret1 h (idxArr1 u n (natOf (ev en i')) (ev en x')) = _ from e0)
  refine ⟨rfl, ?_⟩
  generalize ev en x' = s at hv e1
  generalize hq : a.eval x = s' at hv
  cases s with
  | pointer sa =>
   obtain ⟨k, b, o1, hk, hlt, rfl, rfl⟩ := idxA2_some (show idxA2 u n sa (natOf (ev en i')) = some v from e1)
   obtain ⟨ki, _, hqi⟩ := natOf_VR (gx_VR E hi) hk
   cases hv with
   | ptr id off H g1 =>
    refine ⟨.pointer (some ⟨H.blk, H.off + (o1 + k * u), none⟩), ?_, .ptr b _ H g1⟩
    have hin : (0 : Int) ≤ (k : Int) ∧ (k : Int) < (n : Int) := by omega
    simp [execOp, ho, hq, hqi, Instr.indexAt, Instr.sureAddr, asIntOf, under_run ht, hlt, size_run hu, add_block, Nat.add_assoc]
  | _ => cases e1
theorem nthV_get : ∀ (l : List Value) (j : Nat), nthV l j = l[j]? := by
 intro l
 induction l with
 | nil => intro j; rfl
 | cons u l ih => intro j; cases j with
  | zero => rfl
  | succ j => simpa [nthV] using ih j
theorem nthB_get : ∀ (l : List UInt8) (j : Nat) (v : Value), nthB l j = some v → ∃ b, l[j]? = some b ∧ v = .int .u8 (b.toNat : Int) := by
 intro l
 induction l with
 | nil => intro j v h; cases h
 | cons u l ih => intro j v h; cases j with
  | zero => simp only [nthB, Option.some.injEq] at h; subst h; exact ⟨u, rfl, rfl⟩
  | succ j => obtain ⟨b, h1, h2⟩ := ih j v h; exact ⟨b, by simpa using h1, h2⟩
theorem snd_idxS {t : TypeId} {x i : Operand} {x' i' : GX} (ho : o.op = .index t x i) (ht : P.underlying t = some .string) (hx : gx cx x = some x') (hi : gx cx i = some i') : Snd P cx o (oIdxS x' i') :=
 snd_still fun B ρ en h w a v h' E R e0 => by
  have hv := gx_VR E hx
  obtain ⟨e1, rfl⟩ := ret1_some (show ret1 h (idxS1 (ev en x') (natOf (ev en i'))) = _ from e0)
  refine ⟨rfl, ?_⟩
  generalize ev en x' = s at hv e1
  cases s with
  | string s =>
   have hq := hv.string_inv
   cases hk : natOf (ev en i') with
   | none => rw [hk] at e1; cases e1
   | some k =>
    rw [hk] at e1
    obtain ⟨ki, _, hqi⟩ := natOf_VR (gx_VR E hi) hk
    obtain ⟨b, hb, rfl⟩ := nthB_get _ _ _ (show nthB s.data.toList k = some v from e1)
    refine ⟨_, ?_, .int _ _⟩
    have hg : s[k]? = some b := by
     have hlt : k < s.size := by
      have := (List.getElem?_eq_some_iff.1 hb).1
      simpa using this
     have h3 := (List.getElem?_eq_some_iff.1 hb).2
     rw [getElem?_pos s k hlt]
     congr 1
    simp [execOp, ho, hq, hqi, Instr.index, asIntOf, under_run ht, hg]
  | _ => cases e1
theorem snd_field {t : TypeId} {fs : Array Field} {f : Field} {k : Nat} {x : Operand} {x' : GX} (ho : o.op = .field t x k) (ht : P.underlying t = some (.struct fs)) (hk : fs[k]? = some f) (ha : isAggT P f.type = some false) (hx : gx cx x = some x') : Snd P cx o (oField f.offset x') :=
 snd_still fun B ρ en h w a v h' E R e0 => by
  have hv := gx_VR E hx
  obtain ⟨e1, rfl⟩ := ret1_some (show ret1 h (field1 f.offset (ev en x')) = _ from e0)
  refine ⟨rfl, ?_⟩
  generalize ev en x' = s at hv e1
  cases s with
  | agg cs =>
   obtain ⟨ys, hq, hl⟩ := hv.agg_inv
   simp only [field1, nthV_get] at e1
   have h1 : f.offset < cs.toList.length := (List.getElem?_eq_some_iff.1 e1).1
   have h2 : f.offset < ys.toList.length := by rw [← hl.1]; exact h1
   have hys : ys[f.offset]? = some ys.toList[f.offset] := by simp at h2; simp [h2]
   exact ⟨ys.toList[f.offset], by simp [execOp, ho, hq, Instr.field, under_run ht, hk, part, isAgg_run ha, asAgg, hys], hl.2 _ _ _ e1 (List.getElem?_eq_getElem h2)⟩
  | _ => cases e1
theorem snd_fields {t : TypeId} {fs : Array Field} {f : Field} {k n : Nat} {x : Operand} {x' : GX} (ho : o.op = .field t x k) (ht : P.underlying t = some (.struct fs)) (hk : fs[k]? = some f) (ha : isAggT P f.type = some true) (hn : sizeOfT P f.type = some n) (hx : gx cx x = some x') : Snd P cx o (oFields f.offset n x') :=
 snd_still fun B ρ en h w a v h' E R e0 => by
  have hv := gx_VR E hx
  obtain ⟨e1, rfl⟩ := ret1_some (show ret1 h (fields1 f.offset n (ev en x')) = _ from e0)
  refine ⟨rfl, ?_⟩
  generalize ev en x' = s at hv e1
  cases s with
  | agg cs =>
   obtain ⟨ys, hq, hl⟩ := hv.agg_inv
   simp only [fields1] at e1
   cases hb : Nat.ble (Nat.add f.offset n) cs.toList.length with
   | false => rw [hb] at e1; cases e1
   | true =>
    rw [hb] at e1
    injection e1 with e1
    subst e1
    refine ⟨.agg (ys.extract f.offset (f.offset + n)), by simp [execOp, ho, hq, Instr.field, under_run ht, hk, part, isAgg_run ha, asAgg, size_run hn], ?_⟩
    have : (ys.extract f.offset (f.offset + n)) = ((ys.toList.drop f.offset).take n).toArray := by
     apply Array.ext'
     simp [Array.toList_extract, List.extract_eq_take_drop]
    rw [this]
    exact VR.agg_of ((hl.drop _).take _)
  | _ => cases e1
theorem snd_append {c : Call} {t e : TypeId} {u b : Nat} {s x : Operand} {s' x' : GX} (ho : o.op = .call c) (hc : c.callee = .builtin .append) (ha : c.args = #[s, x]) (hat : c.argTypes = #[t, t])
 (T : AppTo P t o.type e u b) (hs : gx cx s = some s') (hx : gx cx x = some x') : Snd P cx o (oAppend e u b s' x') := fun B ρ en h w a v h' E R hg => by
 obtain ⟨v', w', ρ', h1, h2, h3⟩ := step_append R T (gx_VR E hs) (gx_VR E hx) hg
 refine ⟨v', w', ρ', .inl ?_, h2, h3⟩
 simp [execOp, ho, resolve, hc, ha, hat, invoke, builtin, h1]
theorem snd_copy {c : Call} {t e : TypeId} {u : Nat} {d s : Operand} {d' s' : GX} (ho : o.op = .call c) (hc : c.callee = .builtin .copy) (ha : c.args = #[d, s]) (hat : c.argTypes[0]? = some t)
 (ht : P.underlying t = some (.slice e)) (hu : sizeOfT P e = some u) (hd : gx cx d = some d') (hs : gx cx s = some s') : Snd P cx o (oCopy u d' s') := fun B ρ en h w a v h' E R hg => by
 have hvd := gx_VR E hd
 have hvs := gx_VR E hs
 unfold oCopy at hg
 generalize ev en d' = dv at hvd hg
 generalize ev en s' = sv at hvs hg
 generalize hqd : a.eval d = dv' at hvd
 generalize hqs : a.eval s = sv' at hvs
 cases dv with
 | slice da dn dc => cases sv with
  | slice sa sn sc =>
   simp only [copy0] at hg
   -- both are slices in the model, of the same lengths
   have hdl : ∃ da' dc', dv' = .slice da' dn dc' := by cases hvd <;> exact ⟨_, _, rfl⟩
   have hsl : ∃ sa' sc', sv' = .slice sa' sn sc' := by cases hvs <;> exact ⟨_, _, rfl⟩
   obtain ⟨da', dc', rfl⟩ := hdl
   obtain ⟨sa', sc', rfl⟩ := hsl
   have hmin : minN sn dn = Nat.min sn dn := minN_eq _ _
   rw [hmin] at hg
   have hrun : ∀ (ys : List Value) (w2 : World), (Builtin.firstCells u (Nat.min sn dn) (.slice sa' sn sc')).run P w = .ok ys.toArray w →
    (match da' with | some a2 => (storeCells a2 ys 0).run P w = .ok () w2 | none => w2 = w) → (execOp a.eval o).run P w = .ok (.value (goInt (Nat.min sn dn : Nat))) w2 := fun ys w2 g1 g2 => by
    cases da' with
    | none =>
     subst g2
     simp [execOp, ho, resolve, hc, ha, invoke, builtin, Builtin.copy_, hat, under_run ht, hqd, hqs, Builtin.lenOf, size_run hu, g1]
    | some a2 =>
     simp [execOp, ho, resolve, hc, ha, invoke, builtin, Builtin.copy_, hat, under_run ht, hqd, hqs, Builtin.lenOf, size_run hu, g1, g2]
   cases hm : Nat.min sn dn with
   | zero =>
    rw [hm] at hg hrun
    simp only [copy1, Option.some.injEq, Prod.mk.injEq] at hg
    obtain ⟨rfl, rfl⟩ := hg
    refine ⟨.int .i64 ((0 : Nat) : Int), w, ρ, .inl (hrun [] w ?_ ?_), .int _ _, St.refl R⟩
    ·cases sa' <;> simp [Builtin.firstCells, loadCells, loadCellsFrom]
    ·cases da' <;> simp [storeCells]
   | succ n =>
    rw [hm] at hg hrun
    simp only [copy1] at hg
    cases hr : rowOf h u (Nat.succ n) sa with
    | none => rw [hr] at hg; cases hg
    | some vs =>
     rw [hr] at hg
     simp only [copy2] at hg
     cases da with
     | none => cases hg
     | some da =>
      simp only at hg
      obtain ⟨did, doff, dsp⟩ := da
      cases dsp with
      | some q => cases hg
      | none =>
       simp only at hg
       cases hst : storeB h did doff vs (h.hp.get did) with
       | none => rw [hst] at hg; cases hg
       | some h2 =>
        rw [hst] at hg
        simp only [copy3, Option.some.injEq, Prod.mk.injEq] at hg
        obtain ⟨rfl, rfl⟩ := hg
        -- the source's cells
        cases sa with
        | none => cases hr
        | some sa =>
         obtain ⟨sid, soff, ssp⟩ := sa
         cases ssp with
         | some q => cases hr
         | none =>
          have hr2 : blkCells (Nat.mul (Nat.succ n) u) soff (h.hp.get sid) = some vs := hr
          obtain ⟨H, ys, g1, g2, g3, g4⟩ := R.cells hr2
          cases hvs with
          | slice _ _ _ _ c1 H1 e1 e2 e3 e4 e5 =>
           rw [e1] at g1
           injection g1 with g1
           subst g1
           obtain ⟨H2, w2, r1, r2, r3⟩ := step_store P R hst g2
           cases hvd with
           | slice _ _ _ _ c3 H3 f1 f2 f3 f4 f5 =>
            rw [f1] at r1
            injection r1 with r1
            subst r1
            refine ⟨.int .i64 ((n + 1 : Nat) : Int), w2, ρ, .inl (hrun ys w2 ?_ r2), .int _ _, r3⟩
            have hl := run_loadCells_list (P := P) (w := w) _ ys g4
            have : ys.length = (n + 1) * u := by rw [← g2.1]; exact g3
            rw [this] at hl
            simpa [Builtin.firstCells] using hl
  | _ => cases hg
 | _ => cases hg
end
end Go.Gev
namespace Go.Gev
open Go.RowKit
section
variable {P : Program} {cx : Cx} {o : Oper}
theorem eqB_eq (a b : Bool) : eqB a b = (a == b) := by cases a <;> cases b <;> rfl
theorem notB_eq (a : Bool) : notB a = !a := by cases a <;> rfl
theorem snd_e2 {t yt : TypeId} {x y : Operand} {x' y' : GX} {neg : Bool} {f : E2} (ho : o.op = .binOp (if neg then .neq else .eql) t x y yt) (hx : gx cx x = some x') (hy : gx cx y = some y')
 (H : ∀ (ρ : Ren) (w : World) (u u2 v v2 : Value) (r : Bool), VR ρ u v → VR ρ u2 v2 → f u u2 = some r →
  (eqGuard (if neg then .neq else .eql) t x y v v2).run P w = .ok () w ∧ (binOp (if neg then .neq else .eql) t v v2).run P w = .ok (.bool (if neg then !r else r)) w) : Snd P cx o (oV2 (e2 neg f) x' y') :=
 snd_bin ho hx hy fun ρ w u u2 v v2 r hu hu2 e => by
  unfold e2 at e
  cases hf : f u u2 with
  | none => rw [hf] at e; cases e
  | some b =>
   rw [hf] at e
   obtain ⟨h1, h2⟩ := H ρ w u u2 v v2 b hu hu2 hf
   refine ⟨.bool (if neg then !b else b), by simp only [Sem.run_bind, h1, Result.andThen_ok, h2], ?_⟩
   cases neg with
   | true => simp only [boolO, Option.some.injEq] at e; subst e; rw [notB_eq]; exact .bool _
   | false => simp only [boolO, Option.some.injEq] at e; subst e; exact .bool _
theorem bin_of_equal {w : World} {t : TypeId} {v v2 : Value} {r neg : Bool} (hne : ∀ op, op = BinOp.eql ∨ op = BinOp.neq → binOp op t v v2 = (if op = .eql then (do pure (.bool (← Op.equal t v v2))) else (do pure (.bool (!(← Op.equal t v v2))))))
 (h : (Op.equalIn 10000 t v v2).run P w = .ok r w) : (binOp (if neg then .neq else .eql) t v v2).run P w = .ok (.bool (if neg then !r else r)) w := by
 cases neg with
 | true =>
  simp only [if_true]
  rw [hne .neq (.inr rfl)]
  simp [Op.equal, Op.maxDepth, h]
 | false =>
  simp only [Bool.false_eq_true, if_false]
  rw [hne .eql (.inl rfl)]
  simp [Op.equal, Op.maxDepth, h]
theorem snd_qB {t yt : TypeId} {x y : Operand} {x' y' : GX} {neg : Bool} (ht : P.underlying t = some .bool) (ho : o.op = .binOp (if neg then .neq else .eql) t x y yt) (hx : gx cx x = some x') (hy : gx cx y = some y') : Snd P cx o (oV2 (e2 neg qB) x' y') :=
 snd_e2 ho hx hy fun ρ w u u2 v v2 r hu hu2 e => by
  cases u with
  | bool a => cases u2 with
   | bool b =>
    obtain rfl := hu.bool_inv
    obtain rfl := hu2.bool_inv
    simp only [qB, eqB2, Option.some.injEq] at e
    rw [eqB_eq] at e
    subst e
    refine ⟨by cases neg <;> rfl, bin_of_equal (fun op hop => by rcases hop with rfl | rfl <;> rfl) ?_⟩
    exact run_equalIn_bool' w 9999 t a b ht
   | _ => cases e
  | _ => cases e
theorem eqp_run {w : World} {t te : TypeId} (ht : P.underlying t = some (.pointer te)) (d : Nat) (a b : Option Addr) (h : a = none ∨ b = none) : (Op.equalIn (d + 1) t (.pointer a) (.pointer b)).run P w = .ok (a.isNone && b.isNone) w := by
 rcases h with rfl | rfl
 ·simp [Op.equalIn, under_run ht]
 ·cases a <;> simp [Op.equalIn, under_run ht]
theorem eqs_run {w : World} {t te : TypeId} (ht : P.underlying t = some (.slice te)) (d : Nat) (a b : Option Addr) (n c n2 c2 : Nat) (h : a = none ∨ b = none) : (Op.equalIn (d + 1) t (.slice a n c) (.slice b n2 c2)).run P w = .ok (a.isNone && b.isNone) w := by
 rcases h with rfl | rfl
 ·simp [Op.equalIn, under_run ht]
 ·cases a <;> simp [Op.equalIn, under_run ht]
theorem eqi_run {w : World} {t : TypeId} {ms : Array (String × TypeId)} (ht : P.underlying t = some (.interface ms)) (d : Nat) (td : TypeId) (z : Value) : (Op.equalIn (d + 1) t .nilIface (.iface td z)).run P w = .ok false w ∧ (Op.equalIn (d + 1) t (.iface td z) .nilIface).run P w = .ok false w := by
 constructor <;> simp [Op.equalIn, under_run ht]
theorem snd_qP {t te yt : TypeId} {j : TypeInfo} {x y : Operand} {x' y' : GX} {neg : Bool} (ht : P.underlying t = some (.pointer te)) (hj : P.info? te = some j) (ho : o.op = .binOp (if neg then .neq else .eql) t x y yt) (hx : gx cx x = some x') (hy : gx cx y = some y') : Snd P cx o (oV2 (e2 neg qP) x' y') :=
 snd_e2 ho hx hy fun ρ w u u2 v v2 r hu hu2 e => by
  cases u with
  | pointer a => cases u2 with
   | pointer b =>
    have key : ∀ a' b' : Option Addr, v = .pointer a' → v2 = .pointer b' → (Op.equalIn 10000 t (.pointer a') (.pointer b')).run P w = .ok r w →
     (eqGuard (if neg then .neq else .eql) t x y v v2).run P w = .ok () w ∧ (binOp (if neg then .neq else .eql) t v v2).run P w = .ok (.bool (if neg then !r else r)) w := fun a' b' h1 h2 h3 => by
     subst h1; subst h2
     exact ⟨by cases neg <;> rfl, bin_of_equal (fun op hop => by rcases hop with rfl | rfl <;> rfl) h3⟩
    cases a with
    | none =>
     have h1 : v = .pointer none := by cases hu; rfl
     cases b with
     | none =>
      have h2 : v2 = .pointer none := by cases hu2; rfl
      simp only [qP, Option.some.injEq] at e; subst e
      exact key _ _ h1 h2 (eqp_run ht 9999 none none (.inl rfl))
     | some b =>
      obtain ⟨b', h2⟩ : ∃ b', v2 = .pointer (some b') := by cases hu2; exact ⟨_, rfl⟩
      simp only [qP, Option.some.injEq] at e; subst e
      exact key _ _ h1 h2 (eqp_run ht 9999 none (some b') (.inl rfl))
    | some a =>
     obtain ⟨a', h1⟩ : ∃ a', v = .pointer (some a') := by cases hu; exact ⟨_, rfl⟩
     cases b with
     | none =>
      have h2 : v2 = .pointer none := by cases hu2; rfl
      simp only [qP, Option.some.injEq] at e; subst e
      exact key _ _ h1 h2 (eqp_run ht 9999 (some a') none (.inr rfl))
     | some b =>
      obtain ⟨ab, ao, as⟩ := a
      obtain ⟨bb, bo, bs⟩ := b
      cases as <;> cases bs <;> simp only [qP] at e <;> try cases e
      cases q1 : Nat.beq ab bb with
      | false => rw [q1] at e; cases e
      | true =>
       rw [q1] at e
       simp only at e
       cases q2 : Nat.beq ao bo with
       | false => rw [q2] at e; cases e
       | true =>
        rw [q2] at e
        injection e with e
        subst e
        have := Nat.eq_of_beq_eq_true q1
        subst this
        have := Nat.eq_of_beq_eq_true q2
        subst this
        have h2 : v2 = .pointer (some a') := by
         subst h1
         cases hu with
         | ptr _ _ H hh => cases hu2 with
          | ptr _ _ H2 hh2 =>
           rw [hh] at hh2
           injection hh2 with hh2
           subst hh2
           rfl
        have hsame : ∀ d : Nat, (Op.equalIn (d + 1) t (.pointer (some a')) (.pointer (some a'))).run P w = .ok true w := fun d => by
         simp [Op.equalIn, run_underlying ht, sizeOf, typeInfo, hj, run_sameAddr_same]
        exact key _ _ h1 h2 (hsame 9999)
   | _ => cases e
  | _ => cases e
theorem slice_inv {ρ : Ren} {a : Option Addr} {n c : Nat} {v : Value} (h : VR ρ (.slice a n c) v) : ∃ a' c', v = .slice a' n c' ∧ (a = none ↔ a' = none) := by
 cases h <;> exact ⟨_, _, rfl, by simp⟩
theorem snd_qS {t te yt : TypeId} {x y : Operand} {x' y' : GX} {neg : Bool} (ht : P.underlying t = some (.slice te)) (ho : o.op = .binOp (if neg then .neq else .eql) t x y yt) (hx : gx cx x = some x') (hy : gx cx y = some y') : Snd P cx o (oV2 (e2 neg qS) x' y') :=
 snd_e2 ho hx hy fun ρ w u u2 v v2 r hu hu2 e => by
  cases u with
  | slice a n c => cases u2 with
   | slice b n2 c2 =>
    obtain ⟨a', c', rfl, ha⟩ := slice_inv hu
    obtain ⟨b', c2', rfl, hb⟩ := slice_inv hu2
    have key : (Op.equalIn 10000 t (.slice a' n c') (.slice b' n2 c2')).run P w = .ok r w →
     (eqGuard (if neg then .neq else .eql) t x y (.slice a' n c') (.slice b' n2 c2')).run P w = .ok () w ∧ (binOp (if neg then .neq else .eql) t (.slice a' n c') (.slice b' n2 c2')).run P w = .ok (.bool (if neg then !r else r)) w := fun h3 =>
     ⟨by cases neg <;> rfl, bin_of_equal (fun op hop => by rcases hop with rfl | rfl <;> rfl) h3⟩
    cases a with
    | none =>
     have h1 := ha.1 rfl
     subst h1
     cases b with
     | none =>
      have h2 := hb.1 rfl
      subst h2
      simp only [qS, Option.some.injEq] at e; subst e
      exact key (eqs_run ht 9999 none none _ _ _ _ (.inl rfl))
     | some b =>
      cases b' with
      | none => have := hb.2 rfl; cases this
      | some b' =>
       simp only [qS, Option.some.injEq] at e; subst e
       exact key (eqs_run ht 9999 none (some b') _ _ _ _ (.inl rfl))
    | some a =>
     cases a' with
     | none => have := ha.2 rfl; cases this
     | some a' =>
      cases b with
      | none =>
       have h2 := hb.1 rfl
       subst h2
       simp only [qS, Option.some.injEq] at e; subst e
       exact key (eqs_run ht 9999 (some a') none _ _ _ _ (.inr rfl))
      | some b => cases e
   | _ => cases e
  | _ => cases e
theorem snd_qI {t yt : TypeId} {ms : Array (String × TypeId)} {x y : Operand} {x' y' : GX} {neg : Bool} (ht : P.underlying t = some (.interface ms)) (ho : o.op = .binOp (if neg then .neq else .eql) t x y yt) (hx : gx cx x = some x') (hy : gx cx y = some y') : Snd P cx o (oV2 (e2 neg qI) x' y') :=
 snd_e2 ho hx hy fun ρ w u u2 v v2 r hu hu2 e => by
  cases u with
  | nilIface => cases u2 with
   | iface d z =>
    have h1 : v = .nilIface := by cases hu; rfl
    obtain ⟨z', h2⟩ : ∃ z', v2 = .iface d z' := by cases hu2; exact ⟨_, rfl⟩
    subst h1; subst h2
    simp only [qI, Option.some.injEq] at e; subst e
    exact ⟨by cases neg <;> rfl, bin_of_equal (fun op hop => by rcases hop with rfl | rfl <;> rfl) ((eqi_run ht 9999 _ _).1)⟩
   | _ => cases e
  | iface d z => cases u2 with
   | nilIface =>
    have h1 : v2 = .nilIface := by cases hu2; rfl
    obtain ⟨z', h2⟩ : ∃ z', v = .iface d z' := by cases hu; exact ⟨_, rfl⟩
    subst h1; subst h2
    simp only [qI, Option.some.injEq] at e; subst e
    exact ⟨by cases neg <;> rfl, bin_of_equal (fun op hop => by rcases hop with rfl | rfl <;> rfl) ((eqi_run ht 9999 _ _).2)⟩
   | _ => cases e
  | _ => cases e
theorem eqi0_run {w : World} {t : TypeId} {ms : Array (String × TypeId)} (ht : P.underlying t = some (.interface ms)) (d : Nat) : (Op.equalIn (d + 1) t .nilIface .nilIface).run P w = .ok true w := by
 simp [Op.equalIn, under_run ht]
theorem eqGuard_cst {op : BinOp} {t : TypeId} {x y : Operand} (hc : orB (cstB x) (cstB y) = true) (w : World) : (eqGuard op t x y .nilIface .nilIface).run P w = .ok () w := by
 cases op <;> cases x <;> cases y <;> first | rfl | cases hc
theorem snd_qI0 {t yt : TypeId} {ms : Array (String × TypeId)} {x y : Operand} {x' y' : GX} {neg : Bool} (hc : orB (cstB x) (cstB y) = true) (ht : P.underlying t = some (.interface ms)) (ho : o.op = .binOp (if neg then .neq else .eql) t x y yt) (hx : gx cx x = some x') (hy : gx cx y = some y') : Snd P cx o (oV2 (e2 neg qI0) x' y') :=
 snd_e2 ho hx hy fun ρ w u u2 v v2 r hu hu2 e => by
  cases u with
  | nilIface => cases u2 with
   | nilIface =>
    have h1 : v = .nilIface := by cases hu; rfl
    have h2 : v2 = .nilIface := by cases hu2; rfl
    subst h1; subst h2
    simp only [qI0, Option.some.injEq] at e; subst e
    exact ⟨eqGuard_cst hc w, bin_of_equal (fun op hop => by rcases hop with rfl | rfl <;> rfl) (eqi0_run ht 9999)⟩
   | iface d z =>
    have h1 : v = .nilIface := by cases hu; rfl
    obtain ⟨z', h2⟩ : ∃ z', v2 = .iface d z' := by cases hu2; exact ⟨_, rfl⟩
    subst h1; subst h2
    simp only [qI0, Option.some.injEq] at e; subst e
    exact ⟨by cases neg <;> rfl, bin_of_equal (fun op hop => by rcases hop with rfl | rfl <;> rfl) ((eqi_run ht 9999 _ _).1)⟩
   | _ => cases e
  | iface d z => cases u2 with
   | nilIface =>
    have h1 : v2 = .nilIface := by cases hu2; rfl
    obtain ⟨z', h2⟩ : ∃ z', v = .iface d z' := by cases hu; exact ⟨_, rfl⟩
    subst h1; subst h2
    simp only [qI0, Option.some.injEq] at e; subst e
    exact ⟨by cases neg <;> rfl, bin_of_equal (fun op hop => by rcases hop with rfl | rfl <;> rfl) ((eqi_run ht 9999 _ _).2)⟩
   | _ => cases e
  | _ => cases e
theorem eqCell_run {w : World} {ρ : Ren} {t : TypeId} {k : CK} {u u2 v v2 : Value} {r : Bool} (hk : ckOf P t = some k) (hu : VR ρ u v) (hu2 : VR ρ u2 v2) (e : eqCell k u u2 = some r) (d : Nat) :
 (Op.equalIn (d + 1) t v v2).run P w = .ok r w ∧ isAggT P t = some false := by
 unfold ckOf at hk
 cases hd : P.underlying t with
 | none => rw [hd] at hk; cases hk
 | some td =>
  rw [hd] at hk
  cases td with
  | int k0 =>
   simp only [Option.some.injEq] at hk; subst hk
   refine ⟨?_, by unfold isAggT; rw [hd]⟩
   cases u with
   | int ka a => cases u2 with
    | int kb b =>
     obtain rfl := hu.int_inv
     obtain rfl := hu2.int_inv
     simp only [eqCell, eqI2] at e
     cases hb : Nat.beq (kn ka) (kn kb) with
     | false => rw [hb] at e; cases e
     | true =>
      rw [hb] at e
      obtain rfl := kn_inj hb
      injection e with e
      subst e
      rw [eqI_eq]
      exact run_equalIn_int w d t ka k0 a b hd
    | _ => cases e
   | _ => cases e
  | bool =>
   simp only [Option.some.injEq] at hk; subst hk
   refine ⟨?_, by unfold isAggT; rw [hd]⟩
   cases u with
   | bool a => cases u2 with
    | bool b =>
     obtain rfl := hu.bool_inv
     obtain rfl := hu2.bool_inv
     simp only [eqCell, eqB2, Option.some.injEq] at e; subst e
     rw [eqB_eq]
     exact run_equalIn_bool' w d t a b hd
    | _ => cases e
   | _ => cases e
  | string =>
   simp only [Option.some.injEq] at hk; subst hk
   refine ⟨?_, by unfold isAggT; rw [hd]⟩
   cases u with
   | string a => cases u2 with
    | string b =>
     obtain rfl := hu.string_inv
     obtain rfl := hu2.string_inv
     simp only [eqCell, eqS2, Option.some.injEq] at e; subst e
     rw [eqL_eq, ← toList_data, ← toList_data]
     exact run_equalIn_string w d t a b hd
    | _ => cases e
   | _ => cases e
  | _ => cases hk
theorem part_run {w : World} {t : TypeId} {cs : Array Value} {off : Nat} {v : Value} (ha : isAggT P t = some false) (hc : cs[off]? = some v) : (part t cs off).run P w = .ok v w := by
 simp [part, isAgg_run ha, hc]
theorem eqFields_run {w : World} {ρ : Ren} (d : Nat) (xs' ys' : Array Value) : ∀ (fs : List Field) (i : Nat) (ks : List CK) (xs ys : List Value) (r : Bool), ckFields P fs i = some ks →
 VL ρ xs (xs'.toList.drop i) → VL ρ ys (ys'.toList.drop i) → eqCells ks xs ys = some r → (Op.eqFields (d + 1) xs' ys' fs).run P w = .ok r w := by
 intro fs
 induction fs with
 | nil =>
  intro i ks xs ys r hk _ _ e
  simp only [ckFields, Option.some.injEq] at hk
  subst hk
  simp only [eqCells, Option.some.injEq] at e
  subst e
  simp [Op.eqFields]
 | cons f fs ih =>
  intro i ks xs ys r hk hx hy e
  simp only [ckFields] at hk
  cases hn : (f.name != "_") && (f.offset == i) with
  | false => rw [hn] at hk; cases hk
  | true =>
   rw [hn] at hk
   simp only [Bool.and_eq_true, bne_iff_ne, beq_iff_eq] at hn
   obtain ⟨hn1, hn2⟩ := hn
   cases hc : ckOf P f.type with
   | none => rw [hc] at hk; cases hk
   | some k =>
    cases hcs : ckFields P fs (i + 1) with
    | none => rw [hc, hcs] at hk; cases hk
    | some kr =>
     rw [hc, hcs] at hk
     injection hk with hk
     subst hk
     cases xs with
     | nil => cases e
     | cons x xs => cases ys with
      | nil => cases e
      | cons y ys =>
       simp only [eqCells] at e
       obtain ⟨x2, xr, hx1, hx2, hx3⟩ := hx.head
       obtain ⟨y2, yr, hy1, hy2, hy3⟩ := hy.head
       have gx1 : xs'[i]? = some x2 := by
        have : (xs'.toList.drop i)[0]? = some x2 := by rw [hx1]; rfl
        simpa using this
       have gy1 : ys'[i]? = some y2 := by
        have : (ys'.toList.drop i)[0]? = some y2 := by rw [hy1]; rfl
        simpa using this
       have gx2 : xs'.toList.drop (i + 1) = xr := by
        have : (xs'.toList.drop i).drop 1 = xr := by rw [hx1]; rfl
        rw [← this, List.drop_drop]
       have gy2 : ys'.toList.drop (i + 1) = yr := by
        have : (ys'.toList.drop i).drop 1 = yr := by rw [hy1]; rfl
        rw [← this, List.drop_drop]
       cases hq : eqCell k x y with
       | none => rw [hq] at e; cases e
       | some b =>
        rw [hq] at e
        obtain ⟨h1, h2⟩ := eqCell_run (w := w) hc hx2 hy2 hq d
        simp only [Op.eqFields, if_pos hn1, Sem.run_bind, hn2, part_run h2 gx1, part_run h2 gy1, Result.andThen_ok, h1]
        cases b with
        | true =>
         simp only [Bool.not_true, Bool.false_eq_true, if_false]
         exact ih (i + 1) kr xs ys r hcs (by rw [gx2]; exact hx3) (by rw [gy2]; exact hy3) e
        | false =>
         injection e with e
         subst e
         simp
theorem snd_qA {t yt : TypeId} {fs : Array Field} {ks : List CK} {x y : Operand} {x' y' : GX} {neg : Bool} (ht : P.underlying t = some (.struct fs)) (hg : P.eqGuardType P.depth t = false) (hp : P.stoodInHeld t = false) (hk : ckFields P fs.toList 0 = some ks)
 (ho : o.op = .binOp (if neg then .neq else .eql) t x y yt) (hx : gx cx x = some x') (hy : gx cx y = some y') : Snd P cx o (oV2 (e2 neg (qA ks)) x' y') :=
 snd_e2 ho hx hy fun ρ w u u2 v v2 r hu hu2 e => by
  cases u with
  | agg xs => cases u2 with
   | agg ys =>
    obtain ⟨xs', rfl, hxs⟩ := hu.agg_inv
    obtain ⟨ys', rfl, hys⟩ := hu2.agg_inv
    have hfo : P.fieldsOf t = fs := by unfold Program.fieldsOf; rw [ht]
    refine ⟨run_eqGuard_agg w _ t x y xs' ys' hg, bin_of_equal (fun op hop => by rcases hop with rfl | rfl <;> rfl) ?_⟩
    rw [run_equalIn_struct (P := P) w 9999 t xs' ys' (by rw [hfo]; exact ht) hp, hfo]
    exact eqFields_run (P := P) 9998 xs' ys' fs.toList 0 ks xs.toList ys.toList r hk (by simpa using hxs) (by simpa using hys) e
   | _ => cases e
  | _ => cases e
theorem splice_get : ∀ (off : Nat) (vs cs : List Value) (i : Nat), (splice off vs cs)[i]? = if off ≤ i ∧ i < off + vs.length ∧ i < cs.length then vs[i - off]? else cs[i]? := by
 intro off
 induction off with
 | zero =>
  intro vs
  induction vs with
  | nil => intro cs i; rw [splice.eq_def]; cases cs <;> simp
  | cons v vs ih =>
   intro cs i
   cases cs with
   | nil => simp [splice]
   | cons c cs =>
    simp only [splice]
    cases i with
    | zero => simp
    | succ i =>
     rw [List.getElem?_cons_succ, ih]
     simp
 | succ off ih =>
  intro vs cs i
  cases vs with
  | nil => rw [show splice (off + 1) [] cs = cs from by cases cs <;> rfl, if_neg (by simp only [List.length_nil]; omega)]
  | cons v vs =>
   cases cs with
   | nil => simp [splice]
   | cons c cs =>
    simp only [splice]
    cases i with
    | zero => simp
    | succ i =>
     rw [List.getElem?_cons_succ, ih, List.getElem?_cons_succ]
     have e1 : i + 1 - (off + 1) = i - off := by omega
     rw [e1]
     by_cases h : off ≤ i ∧ i < off + (v :: vs).length ∧ i < cs.length
     ·rw [if_pos h, if_pos (by simp at h ⊢; omega)]
     ·rw [if_neg h, if_neg (by simp at h ⊢; omega)]
theorem splice_length (off : Nat) (vs cs : List Value) : (splice off vs cs).length = cs.length := by
 have h : ∀ i, ((splice off vs cs)[i]?).isSome = (cs[i]?).isSome := fun i => by
  rw [splice_get]
  split
  ·rename_i hh
   have : i - off < vs.length := by omega
   rw [List.getElem?_eq_getElem this, List.getElem?_eq_getElem hh.2.2]; rfl
  ·rfl
 apply Nat.le_antisymm
 ·rcases Nat.lt_or_ge cs.length (splice off vs cs).length with hl | hl
  ·have := h cs.length; simp [hl] at this
  ·exact hl
 ·rcases Nat.lt_or_ge (splice off vs cs).length cs.length with hl | hl
  ·have := h (splice off vs cs).length; simp [hl] at this
  ·exact hl
theorem VL.splice {ρ : Ren} {vs vs' cs cs' : List Value} (off : Nat) (hv : VL ρ vs vs') (hc : VL ρ cs cs') : VL ρ (splice off vs cs) (Gev.splice off vs' cs') := by
 refine ⟨by rw [splice_length, splice_length]; exact hc.1, fun i x y hx hy => ?_⟩
 rw [splice_get] at hx hy
 rw [← hv.1, ← hc.1] at hy
 split at hx
 ·rename_i hh; rw [if_pos hh] at hy; exact hv.2 _ x y hx hy
 ·rename_i hh; rw [if_neg hh] at hy; exact hc.2 _ x y hx hy
theorem foldl_set (off : Nat) : ∀ (l : List Value) (k : Nat) (arr : Array Value) (i : Nat), ((l.zipIdx k).foldl (fun cs (p : Value × Nat) => cs.setIfInBounds (off + p.2) p.1) arr)[i]? =
 if off + k ≤ i ∧ i < off + k + l.length ∧ i < arr.size then l[i - (off + k)]? else arr[i]? := by
 intro l
 induction l with
 | nil => intro k arr i; rw [if_neg (by simp only [List.length_nil]; omega)]; rfl
 | cons v l ih =>
  intro k arr i
  simp only [List.zipIdx_cons, List.foldl_cons]
  rw [ih, Array.getElem?_setIfInBounds]
  simp only [Array.size_setIfInBounds]
  by_cases h1 : i = off + k
  ·subst h1
   rw [if_neg (by omega), if_pos rfl]
   by_cases h2 : off + k < arr.size
   ·rw [if_pos h2, if_pos (by simp; omega)]; simp
   ·rw [if_neg h2, if_neg (by omega)]; simp; omega
  ·by_cases h3 : off + k ≤ i ∧ i < off + k + (v :: l).length ∧ i < arr.size
   ·rw [if_pos (by simp at h3; omega), if_pos h3]
    obtain ⟨d, rfl⟩ : ∃ d, i = off + k + (d + 1) := ⟨i - (off + k) - 1, by omega⟩
    rw [show off + k + (d + 1) - (off + (k + 1)) = d from by omega, show off + k + (d + 1) - (off + k) = d + 1 from by omega]
    simp
   ·rw [if_neg (by simp at h3 ⊢; omega), if_neg (fun e => h1 e.symm), if_neg h3]
theorem fill_spec {ρ : Ren} {en : En} {a : Act} (E : EnR ρ cx en a.tmps) (place : Nat → Option (Nat × Nat)) : ∀ (parts : List (Nat × Operand)) (ps : List (Nat × Nat × GX)) (cs cs' : List Value) (arr : Array Value),
 partsP cx place parts = some ps → VL ρ cs arr.toList → fillL en ps cs = some cs' → ∃ arr', Instr.fill place arr (parts.map fun p => (p.1, a.eval p.2)) = some arr' ∧ VL ρ cs' arr'.toList := by
 intro parts
 induction parts with
 | nil =>
  intro ps cs cs' arr h1 h2 h3
  simp only [partsP, Option.some.injEq] at h1
  subst h1
  simp only [fillL, Option.some.injEq] at h3
  subst h3
  exact ⟨arr, rfl, h2⟩
 | cons p parts ih =>
  intro ps cs cs' arr h1 h2 h3
  obtain ⟨i, x⟩ := p
  simp only [partsP] at h1
  cases hp : place i with
  | none => rw [hp] at h1; cases h1
  | some pl =>
   cases hx : gx cx x with
   | none => rw [hp, hx] at h1; cases h1
   | some y =>
    cases hr : partsP cx place parts with
    | none => rw [hp, hx, hr] at h1; cases h1
    | some ys =>
     rw [hp, hx, hr] at h1
     injection h1 with h1
     subst h1
     simp only [fillL, fill1] at h3
     have hv := gx_VR E hx
     cases hd : isDunno (ev en y) with
     | true => rw [hd] at h3; cases h3
     | false =>
      rw [hd] at h3
      have hne : ev en y ≠ .chan none := fun e1 => by rw [e1] at hd; cases hd
      have hcs := hv.cells hne
      cases hb : Nat.beq (cellsL (ev en y)).length pl.2 with
      | false => rw [hb] at h3; cases h3
      | true =>
       rw [hb] at h3
       cases hb2 : Nat.ble (Nat.add pl.1 pl.2) cs.length with
       | false => rw [hb2] at h3; cases h3
       | true =>
        rw [hb2] at h3
        have hsz : (a.eval x).cells.size = pl.2 := by
         have := hcs.1
         rw [Nat.eq_of_beq_eq_true hb] at this
         simpa using this.symm
        have hfit : pl.1 + pl.2 ≤ arr.size := by
         have h9 : pl.1 + pl.2 ≤ cs.length := Nat.le_of_ble_eq_true hb2
         rw [h2.1] at h9
         simpa using h9
        have hset : ((a.eval x).cells.zipIdx.foldl (fun cs (p : Value × Nat) => cs.setIfInBounds (pl.1 + p.2) p.1) arr).toList = splice pl.1 (a.eval x).cells.toList arr.toList := by
         apply List.ext_getElem?
         intro j
         rw [splice_get]
         have := foldl_set pl.1 (a.eval x).cells.toList 0 arr j
         simp only [Nat.add_zero] at this
         rw [Array.getElem?_toList, ← Array.foldl_toList, Array.toList_zipIdx, this]
         simp
        obtain ⟨arr', g1, g2⟩ := ih ys _ cs' ((a.eval x).cells.zipIdx.foldl (fun cs (p : Value × Nat) => cs.setIfInBounds (pl.1 + p.2) p.1) arr) hr (by rw [hset]; exact VL.splice _ hcs h2) h3
        refine ⟨arr', ?_, g2⟩
        obtain ⟨off, sz⟩ := pl
        simp only [List.map_cons, Instr.fill, hp]
        have hnot : ((a.eval x).cells.size ≠ sz || off + (a.eval x).cells.size > arr.size) = false := by
         simp only at hsz hfit
         simp [hsz]; omega
        rw [if_neg (by simp only at hsz hfit; simp [hsz]; omega)]
        exact g1
end
end Go.Gev
namespace Go.Gev
open Go.RowKit
section
variable {P : Program} {cx : Cx} {o : Oper}
theorem snd_build {t : TypeId} {parts : Array (Nat × Operand)} {z : List Value} {ps : List (Nat × Nat × GX)} {place : Nat → Option (Nat × Nat)} (ho : o.op = .build t parts) (hz : zeroOf P t = some z)
 (hp : partsP cx place parts.toList = some ps)
 (hpl : (∃ fs pl, P.underlying t = some (.struct fs) ∧ placesOf P fs.toList = some pl ∧ place = (pl.toArray[·]?)) ∨ ∃ n e ie, P.underlying t = some (.array n e) ∧ P.info? e = some ie ∧ place = fun i => some (i * ie.size, ie.size)) : Snd P cx o (oBuild z ps) :=
 snd_still fun B ρ en h w a v h' E R e0 => by
  unfold oBuild at e0
  cases hf : fillL en ps z with
  | none => rw [hf] at e0; cases e0
  | some cs =>
   rw [hf] at e0
   simp only [build1, Option.some.injEq, Prod.mk.injEq] at e0
   obtain ⟨rfl, rfl⟩ := e0
   obtain ⟨i, zv, hi, hiz, hzc, hok, _⟩ := zeroOf_some hz
   obtain ⟨arr', g1, g2⟩ := fill_spec E place parts.toList ps z cs zv.cells hp (by rw [hzc]; exact okCL_VL hok) hf
   have hb : P.built t ((parts.map fun (i, x) => (i, a.eval x)).toList) = some arr' := by
    have hm : (parts.map fun (i, x) => (i, a.eval x)).toList = parts.toList.map fun p => (p.1, a.eval p.2) := by simp
    rw [hm]
    unfold Program.built
    rcases hpl with ⟨fs, pl, h1, h2, rfl⟩ | ⟨n, e, ie, h1, h2, rfl⟩
    ·simp only [hi, h1, hiz]
     unfold placesOf at h2
     rw [h2]
     exact g1
    ·simp only [hi, h1, hiz, h2]
     exact g1
   refine ⟨rfl, .agg arr', ?_, ?_⟩
   ·simp only [execOp, ho, Sem.run_bind, run_build w t _ _ hb, Result.andThen_ok, Sem.run_pure]
   ·have := VR.agg_of g2
    simpa using this
theorem snd_mkrow {t e : TypeId} {len u : Nat} {parts : Array (Nat × Operand)} {z : List Value} {ps : List (Nat × Nat × GX)} (ho : o.op = .buildSlice t len parts) (ht : P.underlying t = some (.slice e)) (hu : sizeOfT P e = some u) (hu0 : u ≠ 0) (hl : len * u ≤ 16777216) (hz : zeroOf P e = some z)
 (hp : partsP cx (fun i => some (i * u, u)) parts.toList = some ps) : Snd P cx o (oMkrow e u len z ps) := fun B ρ en h w a v h' E R e0 => by
 unfold oMkrow at e0
 cases hf : fillL en ps (rep z len) with
 | none => rw [hf] at e0; cases e0
 | some cs =>
  rw [hf] at e0
  simp only [mkrow1, Option.some.injEq, Prod.mk.injEq] at e0
  obtain ⟨rfl, rfl⟩ := e0
  obtain ⟨i, zv, hi, hiz, hzc, hok, hzs⟩ := zeroOf_some hz
  have hiu : i.size = u := by unfold sizeOfT at hu; rw [hi] at hu; injection hu
  have hmc : (madeCells zv.cells (len * u)).toList = rep z len := by rw [← hiu, ← hzs, madeCells_rep _ _ (by omega), hzc]
  obtain ⟨arr', g1, g2⟩ := fill_spec E (fun i => some (i * u, u)) parts.toList ps (rep z len) cs (madeCells zv.cells (len * u)) hp (by rw [hmc]; exact VL.rep hok len) hf
  have hsz : arr'.size = len * u := by
   have h1 := g2.1
   have h2 : cs.length = (rep z len).length := by
    have key : ∀ (ps : List (Nat × Nat × GX)) (xs ys : List Value), fillL en ps xs = some ys → ys.length = xs.length := by
     intro ps
     induction ps with
     | nil => intro xs ys hh; simp only [fillL, Option.some.injEq] at hh; rw [hh]
     | cons p ps ih =>
      intro xs ys hh
      simp only [fillL, fill1] at hh
      split at hh
      ·cases hh
      ·split at hh
       ·cases hh
       ·split at hh
        ·cases hh
        ·rw [ih _ _ hh, splice_length]
    exact key _ _ _ hf
   rw [rep_length] at h2
   have h3 : z.length = u := by rw [← hzc]; simpa using hzs.trans hiu
   rw [h3] at h2
   rw [h2] at h1
   simpa using h1.symm
  refine ⟨.slice (some ⟨w.heap.size, 0, none⟩) len len, w.alloc (.cells arr' e), _, .inl ?_, ?_, step_new (w := w) R rfl rfl rfl rfl e u cs arr' arr'.toList g2 (by rw [Array.length_toList, List.take_of_length_le (by simp)])⟩
  ·have hpm : (parts.map fun (i, x) => (i, a.eval x)).toList = parts.toList.map fun p => (p.1, a.eval p.2) := by simp
   have hng : ¬ (len * u > 2 ^ 24) := by omega
   by_cases h0 : len * u = 0
   ·have hr0 : (Array.range (len * u)).map (fun x => (#[] : Array Value)[x % (#[] : Array Value).size]!) = madeCells zv.cells (len * u) := by
     simp [h0, madeCells]
    simp only [execOp, ho, Instr.buildSlice, Sem.run_bind, under_run ht, Result.andThen_ok, size_run hu, if_neg hng, Sem.run_pure, if_pos h0, hr0, hpm, g1, Go.newRow, run_newObj]
    rfl
   ·have hr0 : (Array.range (len * u)).map (fun x => zv.cells[x % zv.cells.size]!) = madeCells zv.cells (len * u) := rfl
    have hzv : (zeroValue e).run P w = .ok zv w := by simp [zeroValue, info_run hi, hiz]
    simp only [execOp, ho, Instr.buildSlice, Sem.run_bind, under_run ht, Result.andThen_ok, size_run hu, if_neg hng, Sem.run_pure, if_neg h0, hzv, hr0, hpm, g1, Go.newRow, run_newObj]
    rfl
  ·refine .slice h.nx 0 len len len _ (Ren.add_same _ _ _) (Nat.le_refl _) (Nat.le_refl _) ?_ (.inr ?_)
   ·have := Nat.le_mul_of_pos_right len (show 0 < u from by omega)
    exact Nat.le_trans this (Nat.le_trans hl (by unfold maxLen; omega))
   ·simp only [Nat.zero_add, hsz]
    exact Nat.le_refl _
end
end Go.Gev
namespace Go.Gev
open Go.RowKit
section
variable {P : Program} {cx : Cx} {o : Oper}
theorem zeroCells_rep (z : Array Value) (n : Nat) : (Builtin.zeroCells z n).toList = rep z.toList n := by
 rcases Nat.eq_zero_or_pos z.size with h0 | h0
 ·have : z = #[] := by simpa using h0
  subst this
  have : ∀ n, rep ([] : List Value) n = [] := fun n => by induction n with
   | zero => rfl
   | succ n ih => simp [rep, ih]
  simp [Builtin.zeroCells, this]
 ·exact madeCells_rep z n h0
theorem runApp_zeros {P : Program} {w : World} {t ti ty e : TypeId} {i : TypeInfo} {z : Value} {k0 k : IntKind} {m : Nat} (ht : P.underlying t = some (.slice e)) (hti : P.underlying ti = some (.int k0)) (hi : P.info? e = some i) (hz : i.zero = some z)
 (hzc : z.cells.size = i.size) (hpos : 0 < i.size) (hb : 0 < i.bytes) (hm : m * i.bytes ≤ 70368744177664) (hone : ∀ y ∈ z.cells.toList, y.oneCell' = true) : RunApp P w e i z #[t, ti] ty (.int k (m : Int)) m (rep z.cells.toList m) := by
 have hm1 : m ≤ 70368744177664 := Nat.le_trans (Nat.le_mul_of_pos_right m hb) hm
 have hw : IntKind.i64.wrap (m : Int) = (m : Int) := by rw [IntKind.wrap_i64]; omega
 have n1 : ¬ ((m : Int) < 0) := by omega
 have n2 : ¬ ((m : Int) * (i.bytes : Int) > 281474976710656) := by
  have h9 : ((m * i.bytes : Nat) : Int) ≤ 70368744177664 := by omega
  rw [Int.natCast_mul] at h9
  omega
 have happ : ∀ w : World, (if m * i.size = 0 then (pure #[] : Sem (Array Value)) else do pure (Builtin.zeroCells (← zeroValue e).cells m)).run P w = .ok (rep z.cells.toList m).toArray w := fun w => by
  by_cases h0 : m * i.size = 0
  ·have : m = 0 := by rcases Nat.mul_eq_zero.1 h0 with h | h <;> omega
   subst this
   simp [rep]
  ·have : Builtin.zeroCells z.cells m = (rep z.cells.toList m).toArray := by
    apply Array.ext'
    rw [zeroCells_rep]
   simp [h0, zeroValue, info_run hi, hz, this]
 have hyl : (rep z.cells.toList m).length = m * i.size := by rw [rep_length]; simp [hzc]
 have hy1 : ∀ y ∈ rep z.cells.toList m, y.oneCell' = true := fun y hy => by
  have : ∀ n, y ∈ rep z.cells.toList n → y ∈ z.cells.toList := fun n => by
   induction n with
   | zero => intro h; simp [rep] at h
   | succ n ih => intro h; simp only [rep, List.mem_append] at h; rcases h with h | h
                  ·exact h
                  ·exact ih h
  exact hone y (this m hy)
 have n3 : ¬ (281474976710656 < (m : Int) * (i.bytes : Int)) := by omega
 have hzr : Builtin.zeroCells z.cells m = (rep z.cells.toList m).toArray := by
  apply Array.ext'
  rw [zeroCells_rep]
 refine ⟨fun hm0 a n c hn => ?_, fun hm0 h64 h48 => ?_, fun g n c cur fz hg hfz hroom hfit => ?_, fun b n c olds ho1 ho2 hc h64 hfit hm0 => ?_⟩
 ·subst hm0
  have hw0 : IntKind.i64.wrap 0 = 0 := by rw [IntKind.wrap_i64]; rfl
  cases a <;> simp [Builtin.append_, run_underlying ht, run_underlying hti, sizeOf, typeInfo, hi, asInt, asIntOf, hw0, hn, storeCells]
 ·have hn0' : m ≠ 0 := by omega
  have h63' : ¬ (9223372036854775807 < (m : Int)) := by omega
  have h48' : ¬ (281474976710656 < Builtin.nextslicecap m 0 * i.bytes) := by rw [nextslicecap_zero hm0]; omega
  have hmz : ¬ (m * i.size = 0) := by rw [Nat.mul_eq_zero]; omega
  simp [Builtin.append_, run_underlying ht, run_underlying hti, sizeOf, typeInfo, zeroValue, hi, hz, asInt, asIntOf, hw, n1, n3, hn0', hmz, h63', h48', Question.forced, run_firstCells_none, Go.newRow, grownCap, hzr]
 ·have hst := run_storeCells_atG P g (n * i.size) e fz (rep z.cells.toList m) 0 cur w hg hfz (by simpa using hfit) hy1
  simp only [Nat.add_zero] at hst
  by_cases hmz : m * i.size = 0
  ·have h0 : m = 0 := by rcases Nat.mul_eq_zero.1 hmz with h | h <;> omega
   subst h0
   have hw0 : IntKind.i64.wrap 0 = 0 := by rw [IntKind.wrap_i64]; rfl
   have hnc : n ≤ c := by omega
   simp only [rep] at hst
   simp [Builtin.append_, run_underlying ht, run_underlying hti, sizeOf, typeInfo, zeroValue, hi, hz, asInt, asIntOf, hw0, hnc, Addr.add_lit, hst, rep]
  ·simp [Builtin.append_, run_underlying ht, run_underlying hti, sizeOf, typeInfo, zeroValue, hi, hz, asInt, asIntOf, hw, n1, n3, hroom, hmz, Addr.add_lit, hzr, hst]
 ·have hroom : ¬ (n + m ≤ c) := by omega
  have h63' : ¬ (9223372036854775807 < ((n : Int) + (m : Int))) := by omega
  have h48' : ¬ (281474976710656 < Builtin.nextslicecap (n + m) c * i.bytes) := by omega
  have hmz : ¬ (m * i.size = 0) := by rw [Nat.mul_eq_zero]; omega
  have hfo := run_firstCells_some (P := P) w.drew i.size n b n c olds ho1 (by simpa using ho2)
  simp [Builtin.append_, run_underlying ht, run_underlying hti, sizeOf, typeInfo, zeroValue, hi, hz, asInt, asIntOf, hw, n1, n3, hroom, hmz, h63', h48', Question.forced, hfo, Go.newRow, grownCap, hzr]
  congr 2
  apply Array.ext'
  simp [List.append_assoc]
theorem snd_appendZ {c : Call} {t ti e : TypeId} {u b : Nat} {k0 : IntKind} {z : List Value} {s x : Operand} {s' x' : GX} (ho : o.op = .call c) (hc : c.callee = .builtin .append) (ha : c.args = #[s, x]) (hat : c.argTypes = #[t, ti])
 (ht : P.underlying t = some (.slice e)) (hti : P.underlying ti = some (.int k0)) (hu : sizeOfT P e = some u) (hb : bytesOfT P e = some b) (hu0 : u ≠ 0) (hb0 : b ≠ 0) (hz : zeroOf P e = some z) (hs : gx cx s = some s') (hx : gx cx x = some x') : Snd P cx o (oAppendZ e u b z s' x') := fun B ρ en h w a v h' E R hg => by
 unfold oAppendZ at hg
 cases hm : natOf (ev en x') with
 | none => rw [hm] at hg; cases hg
 | some m =>
  rw [hm] at hg
  simp only [appZ1] at hg
  cases hb1 : Nat.ble (Nat.mul m b) 70368744177664 with
  | false => rw [hb1] at hg; cases hg
  | true =>
   rw [hb1] at hg
   simp only [app1] at hg
   cases hall : allOne (rep z m) with
   | false => rw [hall] at hg; cases hg
   | true =>
    rw [hall] at hg
    obtain ⟨k, _, hq⟩ := natOf_VR (gx_VR E hx) hm
    obtain ⟨i, zv, hi, hiz, hzc, hok, hzs⟩ := zeroOf_some hz
    have hiu : i.size = u := by unfold sizeOfT at hu; rw [hi] at hu; injection hu
    have hib : i.bytes = b := by unfold bytesOfT at hb; rw [hi] at hb; injection hb
    subst hiu
    subst hib
    subst hzc
    have hone : ∀ y ∈ zv.cells.toList, y.oneCell' = true := fun y hy => by
     have : ∀ l : List Value, okCL l = true → y ∈ l → y.oneCell' = true := by
      intro l
      induction l with
      | nil => intro _ h; simp at h
      | cons v l ih =>
       intro h1 h2
       simp only [okCL] at h1
       cases hv : okC1 v with
       | false => rw [hv] at h1; cases h1
       | true =>
        rw [hv] at h1
        rcases List.mem_cons.1 h2 with rfl | h2
        ·cases y <;> first | rfl | (simp [okC1] at hv)
        ·exact ih h1 h2
     exact this _ hok hy
    have A := runApp_zeros (w := w) (ty := o.type) (k := k) (m := m) ht hti hi hiz hzs (by omega) (by omega) (Nat.le_of_ble_eq_true hb1) hone
    obtain ⟨v', w', ρ', h1, h2, h3⟩ := step_app2 R hzs (by omega) (by omega) A (gx_VR E hs) (VL.rep hok m) (by rw [rep_length]; simp [hzs]) hg
    refine ⟨v', w', ρ', .inl ?_, h2, h3⟩
    have hq' : a.eval x = .int k (m : Int) := hq
    simp [execOp, ho, resolve, hc, ha, hat, invoke, builtin, hq', h1]
theorem snd_convS {s d : TypeId} {x : Operand} {x' : GX} (ho : o.op = .convert s d x) (hs : P.underlying s = some .string) (hd : P.underlying d = some .string) (hx : gx cx x = some x') : Snd P cx o (oConvS x') :=
 snd_still fun B ρ en h w a v h' E R e => by
  have hv := gx_VR E hx
  obtain ⟨e1, rfl⟩ := ret1_some (show ret1 h (convS1 (ev en x')) = _ from e)
  refine ⟨rfl, ?_⟩
  generalize ev en x' = u at hv e1
  cases u with
  | string s0 =>
   have hq := hv.string_inv
   simp only [convS1, Option.some.injEq] at e1; subst e1
   exact ⟨.string s0, by simp only [execOp, ho, hq, convert, under_run hs, under_run hd, Sem.run_bind, Sem.run_pure, Result.andThen_ok], .string _⟩
  | _ => cases e1
theorem list_one {xs : Array Operand} {x : Operand} (h : xs.toList = [x]) : xs = #[x] := by apply Array.ext'; simpa using h
theorem list_two {xs : Array Operand} {x y : Operand} (h : xs.toList = [x, y]) : xs = #[x, y] := by apply Array.ext'; simpa using h
theorem snd_binF {op : BinOp} {t yt : TypeId} {x y : Operand} {x' y' : GX} {f : Value → Value → Option Value} (ho : o.op = .binOp op t x y yt) (hf : binF P op (orB (cstB x) (cstB y)) t = some f) (hx : gx cx x = some x') (hy : gx cx y = some y') : Snd P cx o (oV2 f x' y') := by
 have eq2 : ∀ (neg : Bool) (q : E2), eqOf P (orB (cstB x) (cstB y)) t = some q → o.op = .binOp (if neg then .neq else .eql) t x y yt → Snd P cx o (oV2 (e2 neg q) x' y') := fun neg q hq ho2 => by
  unfold eqOf at hq
  split at hq
  ·rename_i hd; injection hq with hq; subst hq; exact snd_qB hd ho2 hx hy
  ·rename_i te hd
   cases hj : P.info? te with
   | none => rw [hj] at hq; cases hq
   | some j => rw [hj] at hq; injection hq with hq; subst hq; exact snd_qP hd hj ho2 hx hy
  ·rename_i hd; injection hq with hq; subst hq; exact snd_qS hd ho2 hx hy
  ·rename_i hd
   injection hq with hq
   subst hq
   cases hcc : orB (cstB x) (cstB y) with
   | true => exact snd_qI0 hcc hd ho2 hx hy
   | false => exact snd_qI hd ho2 hx hy
  ·rename_i fs hd
   cases hg : (!P.eqGuardType P.depth t && !P.stoodInHeld t) with
   | false => simp only [hg] at hq; cases hq
   | true =>
    simp only [hg] at hq
    cases hk : ckFields P fs.toList 0 with
    | none => rw [hk] at hq; cases hq
    | some ks =>
     rw [hk] at hq
     injection hq with hq
     subst hq
     simp only [Bool.and_eq_true, Bool.not_eq_true'] at hg
     exact snd_qA hd hg.1 hg.2 hk ho2 hx hy
  ·cases hq
 unfold binF at hf
 split at hf
 ·injection hf with hf; subst hf; exact snd_sh2 (.inl rfl) ho hx hy
 ·injection hf with hf; subst hf; exact snd_sh2 (.inr rfl) ho hx hy
 ·rename_i hn1 hn2
  split at hf
  ·injection hf with hf; subst hf; exact snd_i2 ⟨hn1, hn2⟩ ho hx hy
  ·injection hf with hf; subst hf; exact snd_s2 ho hx hy
  ·split at hf
   ·cases hq : eqOf P (orB (cstB x) (cstB y)) t with
    | none => rw [hq] at hf; cases hf
    | some q => rw [hq] at hf; injection hf with hf; subst hf; exact eq2 false q hq ho
   ·cases hq : eqOf P (orB (cstB x) (cstB y)) t with
    | none => rw [hq] at hf; cases hf
    | some q => rw [hq] at hf; injection hf with hf; subst hf; exact eq2 true q hq ho
   ·cases hf
  ·cases hf
theorem gopS_sound {g : En → Hs → Rs} (h : gopS P cx o = some (.fn g)) : Snd P cx o g := by
 unfold gopS at h
 split at h
 case h_1 x ho | h_2 x ho =>
  simp only [Option.bind_eq_bind, Option.bind_eq_some_iff, Option.some.injEq, GOp.fn.injEq] at h
  obtain ⟨y, hy, rfl⟩ := h
  first | exact snd_mv (.inl ho) hy | exact snd_mv (.inr ho) hy
 case h_3 c a b ho =>
  simp only [Option.bind_eq_bind, Option.bind_eq_some_iff, Option.some.injEq, GOp.fn.injEq] at h
  obtain ⟨c', hc, a', ha, b', hb, rfl⟩ := h
  exact snd_pick ho hc ha hb
 case h_4 e ho =>
  simp only [Option.bind_eq_bind, Option.bind_eq_some_iff, Option.some.injEq, GOp.fn.injEq] at h
  obtain ⟨z, hz, rfl⟩ := h
  exact snd_alloc ho hz
 case h_5 e x ho =>
  simp only [Option.bind_eq_bind, Option.bind_eq_some_iff, Option.some.injEq, GOp.fn.injEq] at h
  obtain ⟨y, hy, rfl⟩ := h
  exact snd_box ho hy
 case h_6 t parts ho =>
  split at h
  ·rename_i fs hd
   simp only [Option.bind_eq_bind, Option.bind_eq_some_iff, Option.some.injEq, GOp.fn.injEq] at h
   obtain ⟨pl, hpl, z, hz, ps, hps, rfl⟩ := h
   exact snd_build ho hz hps (.inl ⟨fs, pl, hd, hpl, rfl⟩)
  ·rename_i n e hd
   simp only [Option.bind_eq_bind, Option.bind_eq_some_iff, Option.some.injEq, GOp.fn.injEq] at h
   obtain ⟨u, hu, z, hz, ps, hps, rfl⟩ := h
   obtain ⟨ie, h1, h2⟩ : ∃ ie, P.info? e = some ie ∧ ie.size = u := by
    unfold sizeOfT at hu
    cases hi : P.info? e with
    | none => rw [hi] at hu; cases hu
    | some ie => rw [hi] at hu; injection hu with hu; exact ⟨ie, rfl, hu⟩
   subst h2
   exact snd_build ho hz hps (.inr ⟨n, e, ie, hd, h1, rfl⟩)
  ·cases h
 case h_7 t len parts ho =>
  split at h
  ·rename_i e hd
   simp only [Option.bind_eq_bind, Option.bind_eq_some_iff] at h
   obtain ⟨u, hu, h⟩ := h
   split at h
   ·cases h
   ·rename_i hn
    simp only [Option.bind_eq_some_iff, Option.some.injEq, GOp.fn.injEq] at h
    obtain ⟨z, hz, ps, hps, rfl⟩ := h
    exact snd_mkrow ho hd hu (fun e => hn (.inl e)) (by omega) hz hps
  ·cases h
 case h_8 t a ho =>
  simp only [Option.bind_eq_bind, Option.bind_eq_some_iff] at h
  obtain ⟨b, hb, h⟩ := h
  cases b with
  | true =>
   simp only [if_true, Option.bind_eq_some_iff, Option.some.injEq, GOp.fn.injEq] at h
   obtain ⟨n, hn, y, hy, rfl⟩ := h
   exact snd_loads ho hy hb hn
  | false =>
   simp only [Bool.false_eq_true, if_false, Option.bind_eq_some_iff, Option.some.injEq, GOp.fn.injEq] at h
   obtain ⟨y, hy, rfl⟩ := h
   exact snd_load ho hy hb
 case h_9 t a x ho =>
  simp only [Option.bind_eq_bind, Option.bind_eq_some_iff, Option.some.injEq, GOp.fn.injEq] at h
  obtain ⟨n, hn, a', ha, x', hx, rfl⟩ := h
  exact snd_store ho ha hx hn
 case h_10 x ho =>
  simp only [Option.bind_eq_bind, Option.bind_eq_some_iff, Option.some.injEq, GOp.fn.injEq] at h
  obtain ⟨y, hy, rfl⟩ := h
  exact snd_nilc ho hy
 case h_11 op t x y yt ho =>
  simp only [Option.bind_eq_bind, Option.bind_eq_some_iff, Option.some.injEq, GOp.fn.injEq] at h
  obtain ⟨f, hf, x', hx, y', hy, rfl⟩ := h
  exact snd_binF ho hf hx hy
 case h_12 op t x ho =>
  simp only [Option.bind_eq_bind, Option.bind_eq_some_iff, Option.some.injEq, GOp.fn.injEq] at h
  obtain ⟨x', hx, rfl⟩ := h
  exact snd_un ho hx
 case h_13 s d x ho =>
  split at h
  ·rename_i hs hd
   simp only [Option.bind_eq_bind, Option.bind_eq_some_iff, Option.some.injEq, GOp.fn.injEq] at h
   obtain ⟨x', hx, rfl⟩ := h
   exact snd_convI ho hs hd hx
  ·rename_i hs hd
   simp only [Option.bind_eq_bind, Option.bind_eq_some_iff, Option.some.injEq, GOp.fn.injEq] at h
   obtain ⟨x', hx, rfl⟩ := h
   exact snd_convS ho hs hd hx
  ·cases h
 case h_14 t x ho =>
  split at h
  ·cases h
  ·cases h
  ·rename_i hn1 hn2
   simp only [Option.bind_eq_bind, Option.bind_eq_some_iff, Option.some.injEq, GOp.fn.injEq] at h
   obtain ⟨x', hx, rfl⟩ := h
   cases hd : P.underlying t with
   | none => exact absurd hd hn2
   | some d => exact snd_mkface ho hd (fun ms e => hn1 ms (by rw [hd, e])) hx
 case h_15 fn first captured ho =>
  simp only [Option.bind_eq_bind, Option.bind_eq_some_iff, Option.some.injEq, GOp.fn.injEq] at h
  obtain ⟨f', hf, c', hc, rfl⟩ := h
  exact snd_mkfunc ho hf hc
 case h_16 t l c ho =>
  split at h
  ·rename_i e hd
   simp only [Option.bind_eq_bind, Option.bind_eq_some_iff] at h
   obtain ⟨u, hu, b, hb, h⟩ := h
   split at h
   ·cases h
   ·rename_i hn
    simp only [Option.bind_eq_some_iff, Option.some.injEq, GOp.fn.injEq] at h
    obtain ⟨z, hz, l', hl, c', hc, rfl⟩ := h
    exact snd_mkslice ho hd hu (fun e => hn (.inl e)) hb (fun e => hn (.inr e)) hz hl hc
  ·cases h
 case h_17 t x lo hi mx ho =>
  split at h
  ·rename_i e hd
   have key : ∀ hmh : mx = none ∨ hi ≠ none, (do some (GOp.fn <| oSlice (← sizeOfT P e) (← gx cx x) (← gxo cx lo) (← gxo cx hi) (← gxo cx mx))) = some (GOp.fn g) → Snd P cx o g := fun hmh h => by
    simp only [Option.bind_eq_bind, Option.bind_eq_some_iff, Option.some.injEq, GOp.fn.injEq] at h
    obtain ⟨u, hu, x', hx, lo', hlo, hi', hhi, mx', hmx, rfl⟩ := h
    exact snd_slice ho hd hu hx hlo hhi hmx hmh
   split at h
   ·cases h
   ·rename_i hnot
    refine key ?_ h
    cases mx with
    | none => exact .inl rfl
    | some m => cases hi with
     | none => exact absurd rfl (hnot m rfl)
     | some q => exact .inr (by simp)
  ·rename_i hd
   split at h
   ·simp only [Option.bind_eq_bind, Option.bind_eq_some_iff, Option.some.injEq, GOp.fn.injEq] at h
    obtain ⟨x', hx, lo', hlo, hi', hhi, rfl⟩ := h
    exact snd_cutstr ho hd hx hlo hhi
   ·cases h
  ·cases h
 case h_18 t x k ho =>
  split at h
  ·rename_i fs hd
   split at h
   ·rename_i f hk
    simp only [Option.bind_eq_bind, Option.bind_eq_some_iff] at h
    obtain ⟨s, hs, h⟩ := h
    split at h
    ·cases h
    ·rename_i hn
     simp only [Option.bind_eq_some_iff, Option.some.injEq, GOp.fn.injEq] at h
     obtain ⟨x', hx, rfl⟩ := h
     exact snd_fieldA ho hd hk hs hn hx
   ·cases h
  ·cases h
 case h_19 t x k ho =>
  split at h
  ·rename_i fs hd
   split at h
   ·rename_i f hk
    simp only [Option.bind_eq_bind, Option.bind_eq_some_iff] at h
    obtain ⟨b, hb, h⟩ := h
    cases b with
    | true =>
     simp only [if_true, Option.bind_eq_some_iff, Option.some.injEq, GOp.fn.injEq] at h
     obtain ⟨n, hn, x', hx, rfl⟩ := h
     exact snd_fields ho hd hk hb hn hx
    | false =>
     simp only [Bool.false_eq_true, if_false, Option.bind_eq_some_iff, Option.some.injEq, GOp.fn.injEq] at h
     obtain ⟨x', hx, rfl⟩ := h
     exact snd_field ho hd hk hb hx
   ·cases h
  ·cases h
 case h_20 t x i ho =>
  split at h
  ·rename_i e hd
   simp only [Option.bind_eq_bind, Option.bind_eq_some_iff, Option.some.injEq, GOp.fn.injEq] at h
   obtain ⟨u, hu, x', hx, i', hi, rfl⟩ := h
   exact snd_idxA ho hd hu hx hi
  ·rename_i n e hd
   simp only [Option.bind_eq_bind, Option.bind_eq_some_iff, Option.some.injEq, GOp.fn.injEq] at h
   obtain ⟨u, hu, x', hx, i', hi, rfl⟩ := h
   exact snd_idxArr ho hd hu hx hi
  ·cases h
 case h_21 t x i ho =>
  split at h
  ·rename_i hd
   simp only [Option.bind_eq_bind, Option.bind_eq_some_iff, Option.some.injEq, GOp.fn.injEq] at h
   obtain ⟨x', hx, i', hi, rfl⟩ := h
   exact snd_idxS ho hd hx hi
  ·cases h
 case h_22 x i ho =>
  simp only [Option.bind_eq_bind, Option.bind_eq_some_iff, Option.some.injEq, GOp.fn.injEq] at h
  obtain ⟨x', hx, rfl⟩ := h
  exact snd_extr ho hx
 case h_23 c ho =>
  split at h
  ·simp only [Option.bind_eq_bind, Option.bind_eq_some_iff, Option.some.injEq] at h
   obtain ⟨_, _, h⟩ := h
   cases h
  ·simp only [Option.bind_eq_bind, Option.bind_eq_some_iff, Option.some.injEq] at h
   obtain ⟨_, _, _, _, h⟩ := h
   cases h
  ·rename_i hc
   split at h
   ·rename_i x hxs ht
    simp only [Option.bind_eq_bind, Option.bind_eq_some_iff, Option.some.injEq, GOp.fn.injEq] at h ht
    obtain ⟨x', hx, rfl⟩ := h
    obtain ⟨t, h1, h2⟩ := ht
    exact snd_lenS ho hc (list_one hxs) h1 h2 hx
   ·rename_i x e hxs ht
    simp only [Option.bind_eq_bind, Option.bind_eq_some_iff, Option.some.injEq, GOp.fn.injEq] at h ht
    obtain ⟨x', hx, rfl⟩ := h
    obtain ⟨t, h1, h2⟩ := ht
    exact snd_lenV ho hc (list_one hxs) h1 h2 hx
   ·rename_i x n e hxs ht
    simp only [Option.bind_eq_some_iff, Option.some.injEq, GOp.fn.injEq] at h ht
    subst h
    obtain ⟨t, h1, h2⟩ := ht
    exact snd_lenC ho hc (list_one hxs) h1 h2
   ·cases h
  ·rename_i hc
   split at h
   ·rename_i x e hxs ht
    simp only [Option.bind_eq_bind, Option.bind_eq_some_iff, Option.some.injEq, GOp.fn.injEq] at h ht
    obtain ⟨x', hx, rfl⟩ := h
    obtain ⟨t, h1, h2⟩ := ht
    exact snd_capV ho hc (list_one hxs) h1 h2 hx
   ·cases h
  ·rename_i hc
   simp only [Option.bind_eq_bind, Option.bind_eq_some_iff, Option.some.injEq, GOp.fn.injEq] at h
   obtain ⟨xs, hx, rfl⟩ := h
   exact snd_minmax (mx := false) ho hc hx
  ·rename_i hc
   simp only [Option.bind_eq_bind, Option.bind_eq_some_iff, Option.some.injEq, GOp.fn.injEq] at h
   obtain ⟨xs, hx, rfl⟩ := h
   exact snd_minmax (mx := true) ho hc hx
  ·rename_i hc
   split at h
   ·rename_i s x e e2 hxs ht ht2
    simp only [Option.bind_eq_bind, Option.bind_eq_some_iff] at h ht ht2
    obtain ⟨u, hu, b, hb, z, hz, h⟩ := h
    split at h
    ·cases h
    ·rename_i hn
     simp only [Option.bind_eq_some_iff, Option.some.injEq, GOp.fn.injEq] at h
     obtain ⟨s', hs, x', hx, rfl⟩ := h
     obtain ⟨t, h1, h2⟩ := ht
     have hat : c.argTypes = #[t, t] := by
      have hsz : c.argTypes.size = 2 := by
       by_cases hs2 : c.argTypes.size = 2
       ·exact hs2
       ·exact absurd (.inr (.inr (.inr hs2))) hn
      have heq : c.argTypes[0]? = c.argTypes[1]? := by
       by_cases hs2 : c.argTypes[0]? = c.argTypes[1]?
       ·exact hs2
       ·exact absurd (.inr (.inr (.inl hs2))) hn
      apply Array.ext_getElem?
      intro i
      match i with
      | 0 => rw [h1]; rfl
      | 1 => rw [← heq, h1]; rfl
      | i + 2 => rw [Array.getElem?_eq_none (by omega), Array.getElem?_eq_none (by simp)]
     obtain ⟨i, zv, hi, hiz, hzc, hok, hzs⟩ := zeroOf_some hz
     have hiu : i.size = u := by unfold sizeOfT at hu; rw [hi] at hu; injection hu
     have hib : i.bytes = b := by unfold bytesOfT at hb; rw [hi] at hb; injection hb
     exact snd_append ho hc (list_two hxs) hat ⟨h2, ⟨i, zv, hi, hiz, hiu, hib, hzs.trans hiu⟩, by omega, by omega⟩ hs hx
   ·rename_i s x e k0 hxs ht ht2
    simp only [Option.bind_eq_bind, Option.bind_eq_some_iff] at h ht ht2
    obtain ⟨u, hu, b, hb, h⟩ := h
    split at h
    ·cases h
    ·rename_i hn
     simp only [Option.bind_eq_some_iff, Option.some.injEq, GOp.fn.injEq] at h
     obtain ⟨z, hz, s', hs, x', hx, rfl⟩ := h
     obtain ⟨t, h1, h2⟩ := ht
     obtain ⟨ti, h3, h4⟩ := ht2
     have hat : c.argTypes = #[t, ti] := by
      have hsz : c.argTypes.size = 2 := by
       by_cases hs2 : c.argTypes.size = 2
       ·exact hs2
       ·exact absurd (.inr (.inr hs2)) hn
      apply Array.ext_getElem?
      intro i
      match i with
      | 0 => rw [h1]; rfl
      | 1 => rw [h3]; rfl
      | i + 2 => rw [Array.getElem?_eq_none (by omega), Array.getElem?_eq_none (by simp)]
     exact snd_appendZ ho hc (list_two hxs) hat h2 h4 hu hb (fun e => hn (.inl e)) (fun e => hn (.inr (.inl e))) hz hs hx
   ·cases h
  ·rename_i hc
   split at h
   ·rename_i d s e e2 hxs ht ht2
    simp only [Option.bind_eq_bind, Option.bind_eq_some_iff, Option.some.injEq, GOp.fn.injEq] at h ht ht2
    obtain ⟨u, hu, d', hd, s', hs, rfl⟩ := h
    obtain ⟨t, h1, h2⟩ := ht
    exact snd_copy ho hc (list_two hxs) h1 h2 hu hd hs
   ·cases h
  ·cases h
 case h_24 => cases h
end
end Go.Gev

/- Each operation of the evaluator does what the model's does (1). -/
import Derived.Test.YtbecnapcgehliaaGreatDoorGevComp
import Derived.Test.YtbecnapcgehliaaGreatDoorGevApp
import Derived.Test.YtbecnapcgehliaaGreatDoorGevNum
namespace Go.Gev
open Go.RowKit

/-- frame and region as the model's temporaries -/
structure EnR (ρ : Ren) (cx : Cx) (en : En) (tm : Array Value) : Prop where
  look : ∀ t, VR ρ (ev en (cx.look t)) (tm.getD t undef)
theorem EnR.plain {ρ : Ren} {sl : List Nat} {df : List (Option Nat)} {en : En} {tm : Array Value} (h1 : ∀ t p, slot sl t = some p → VR ρ (vOr (en.fr.getp p)) (tm.getD t undef))
    (h2 : ∀ t i, locAt t df = some i → VR ρ (nthL i en.loc) (tm.getD t undef)) : EnR ρ (plainCx sl df) en tm := ⟨fun t => by
  simp only [plainCx, plainLook]
  cases h : locAt t df with
  | some i => exact h2 t i h
  | none =>
    simp only [slotX]
    cases h3 : slot sl t with
    | some p => exact h1 t p h3
    | none => exact .dunno _⟩
theorem EnR.mono {ρ ρ' : Ren} {cx : Cx} {en : En} {tm : Array Value} (h : EnR ρ cx en tm) (hle : ρ.le ρ') : EnR ρ' cx en tm := ⟨fun t => (h.look t).mono hle⟩

theorem okC1_VR {ρ : Ren} {v : Value} (h : okC1 v = true) : VR ρ v v := by
  cases v with
  | int k n => exact .int k n
  | bool b => exact .bool b
  | string s => exact .string s
  | nilIface => exact .nilIface
  | nilFunc => exact .nilFunc
  | pointer a => cases a with
    | none => exact .nilptr
    | some a => simp [okC1] at h
  | slice a n c => cases a with
    | none => cases n with
      | zero => cases c with
        | zero => exact .nilslice
        | succ c => simp [okC1] at h
      | succ n => simp [okC1] at h
    | some a => simp [okC1] at h
  | map r => cases r with
    | none => exact .nilmap
    | some r => simp [okC1] at h
  | _ => simp [okC1] at h
theorem okCL_VL {ρ : Ren} : ∀ {vs : List Value}, okCL vs = true → VL ρ vs vs := by
  intro vs
  induction vs with
  | nil => intro _; exact VL.nil
  | cons v vs ih =>
    intro h
    simp only [okCL] at h
    cases hv : okC1 v with
    | false => rw [hv] at h; cases h
    | true => rw [hv] at h; exact .cons (okC1_VR hv) (ih h)
theorem okC_VR {ρ : Ren} {v : Value} (h : okC v = true) : VR ρ v v := by
  cases v with
  | agg cs =>
    have g := VL.get (okCL_VL (ρ := ρ) h)
    exact .agg cs cs g.1 g.2
  | _ => exact okC1_VR h

section
variable {ρ : Ren} {cx : Cx} {en : En} {tm : Array Value}
theorem gt_VR (E : EnR ρ cx en tm) (t : Nat) : VR ρ (ev en (gt cx t)) (tm.getD t undef) := E.look t
theorem gx_VR {a : Act} (E : EnR ρ cx en a.tmps) {x : Operand} {y : GX} (h : gx cx x = some y) : VR ρ (ev en y) (a.eval x) := by
  cases x with
  | tmp t => simp only [gx, Option.some.injEq] at h; subst h; exact gt_VR E t
  | const v =>
    simp only [gx] at h
    cases ho : okC v with
    | false => rw [ho] at h; cases h
    | true => rw [ho] at h; injection h with h; subst h; exact okC_VR ho
  | global g => cases h
  | func f => simp only [gx, Option.some.injEq] at h; subst h; exact .func _ #[] #[] #[] #[] (fun l e => by cases e) rfl (fun i a => by simp at a) rfl (fun i a => by simp at a)
theorem gxs_VL {a : Act} (E : EnR ρ cx en a.tmps) : ∀ {xs : List Operand} {ys : List GX}, gxs cx xs = some ys → VL ρ (evL en ys) (xs.map a.eval) := by
  intro xs
  induction xs with
  | nil => intro ys h; simp only [gxs, Option.some.injEq] at h; subst h; exact VL.nil
  | cons x xs ih =>
    intro ys h
    simp only [gxs] at h
    cases h1 : gx cx x with
    | none => rw [h1] at h; cases h
    | some y => cases h2 : gxs cx xs with
      | none => rw [h1, h2] at h; cases h
      | some zs => rw [h1, h2] at h; injection h with h; subst h; exact .cons (gx_VR E h1) (ih h2)
end

theorem VR.bool_inv {ρ : Ren} {b : Bool} {v : Value} (h : VR ρ (.bool b) v) : v = .bool b := by cases h; rfl
theorem VR.int_inv {ρ : Ren} {k : IntKind} {n : Int} {v : Value} (h : VR ρ (.int k n) v) : v = .int k n := by cases h; rfl
theorem VR.string_inv {ρ : Ren} {s : ByteArray} {v : Value} (h : VR ρ (.string s) v) : v = .string s := by cases h; rfl
theorem VR.agg_inv {ρ : Ren} {xs : Array Value} {v : Value} (h : VR ρ (.agg xs) v) : ∃ ys, v = .agg ys ∧ VL ρ xs.toList ys.toList := by
  cases h with
  | agg _ ys h h' => exact ⟨ys, rfl, VL.arr h h'⟩
theorem VR.tuple_inv {ρ : Ren} {xs : Array Value} {v : Value} (h : VR ρ (.tuple xs) v) : ∃ ys, v = .tuple ys ∧ VL ρ xs.toList ys.toList := by
  cases h with
  | tuple _ ys h h' => exact ⟨ys, rfl, VL.arr h h'⟩
theorem VR.undef_inv {ρ : Ren} : VR ρ undef' undef := .tuple #[] #[] rfl (fun i a => by simp at a)
/-- an address that the evaluator can use -/
theorem addrOf_VR {ρ : Ren} {v v' : Value} {p : Nat × Nat} (h : VR ρ v v') (e : addrOf v = some p) : ∃ H, ρ p.1 = some H ∧ v = .pointer (some ⟨p.1, p.2, none⟩) ∧ v' = .pointer (some ⟨H.blk, H.off + p.2, none⟩) := by
  cases h with
  | ptr id off H hh =>
    simp only [addrOf, Option.some.injEq] at e
    subst e
    exact ⟨H, hh, rfl, rfl⟩
  | _ => cases e
theorem natOf_VR {ρ : Ren} {v v' : Value} {n : Nat} (h : VR ρ v v') (e : natOf v = some n) : ∃ k, v = .int k (n : Int) ∧ v' = .int k (n : Int) := by
  cases v with
  | int k m => cases m with
    | ofNat m => simp only [natOf, Option.some.injEq] at e; subst e; exact ⟨k, rfl, h.int_inv⟩
    | negSucc m => cases e
  | _ => cases e

/-- what an operation has done -/
def Did (P : Program) (o : Oper) (a : Act) (w : World) (v' : Value) (w' : World) : Prop :=
  (execOp a.eval o).run P w = .ok (.value v') w' ∨ ((execOp a.eval o).run P w = .ok .skip w' ∧ v' = undef)

def Snd (P : Program) (cx : Cx) (o : Oper) (g : En → Hs → Rs) : Prop :=
  ∀ (B : Nat) (ρ : Ren) (en : En) (h : Hs) (w : World) (a : Act) (v : Value) (h' : Hs), EnR ρ cx en a.tmps → HR B ρ h w → g en h = some (v, h') →
    ∃ v' w' ρ', Did P o a w v' w' ∧ VR ρ' v v' ∧ St B ρ h w ρ' h' w'

/-- an operation that leaves all memory alone -/
theorem snd_still {P : Program} {cx : Cx} {o : Oper} {g : En → Hs → Rs}
    (H : ∀ (B : Nat) (ρ : Ren) (en : En) (h : Hs) (w : World) (a : Act) (v : Value) (h' : Hs), EnR ρ cx en a.tmps → HR B ρ h w → g en h = some (v, h') → h' = h ∧ ∃ v', (execOp a.eval o).run P w = .ok (.value v') w ∧ VR ρ v v') : Snd P cx o g :=
  fun B ρ en h w a v h' E R hg => by
    obtain ⟨rfl, v', h1, h2⟩ := H B ρ en h w a v h' E R hg
    exact ⟨v', w, ρ, .inl h1, h2, St.refl R⟩
theorem ret1_some {h h' : Hs} {x : Option Value} {v : Value} (e : ret1 h x = some (v, h')) : x = some v ∧ h' = h := by
  cases x with
  | none => cases e
  | some u => simp only [ret1, Option.some.injEq, Prod.mk.injEq] at e; exact ⟨by rw [e.1], e.2.symm⟩

section
variable {P : Program} {cx : Cx} {o : Oper}
theorem snd_mv {x : Operand} {y : GX} (ho : o.op = .move x ∨ o.op = .assign x) (hx : gx cx x = some y) : Snd P cx o (oMv y) :=
  snd_still fun B ρ en h w a v h' E R e => by
    simp only [oMv, Option.some.injEq, Prod.mk.injEq] at e
    obtain ⟨rfl, rfl⟩ := e
    refine ⟨rfl, a.eval x, ?_, gx_VR E hx⟩
    rcases ho with ho | ho <;> simp [execOp, ho]
theorem snd_pick {c x y : Operand} {c' x' y' : GX} (ho : o.op = .pick c x y) (hc : gx cx c = some c') (hx : gx cx x = some x') (hy : gx cx y = some y') : Snd P cx o (oPick c' x' y') :=
  snd_still fun B ρ en h w a v h' E R e => by
    have hcv := gx_VR E hc
    unfold oPick at e
    cases hv : ev en c' with
    | bool t =>
      rw [hv] at hcv e
      have hq := hcv.bool_inv
      cases t with
      | true =>
        simp only [pickB, Option.some.injEq, Prod.mk.injEq] at e
        obtain ⟨rfl, rfl⟩ := e
        exact ⟨rfl, _, by simp [execOp, ho, hq, asBool], gx_VR E hx⟩
      | false =>
        simp only [pickB, Option.some.injEq, Prod.mk.injEq] at e
        obtain ⟨rfl, rfl⟩ := e
        exact ⟨rfl, _, by simp [execOp, ho, hq, asBool], gx_VR E hy⟩
    | _ => rw [hv] at e; cases e
theorem info_run {t : TypeId} {i : TypeInfo} (h : P.info? t = some i) (w : World) : (typeInfo t).run P w = .ok i w := by simp [typeInfo, h]
theorem zeroOf_some {t : TypeId} {z : List Value} (h : zeroOf P t = some z) : ∃ i zv, P.info? t = some i ∧ i.zero = some zv ∧ zv.cells.toList = z ∧ okCL z = true ∧ zv.cells.size = i.size := by
  unfold zeroOf at h
  cases hi : P.info? t with
  | none => rw [hi] at h; cases h
  | some i =>
    simp only [hi] at h
    cases hz : i.zero with
    | none => simp only [hz] at h; cases h
    | some zv =>
      simp only [hz] at h
      cases ho : okCL zv.cells.toList with
      | false => simp only [ho] at h; cases h
      | true =>
        simp only [ho] at h
        cases hb : Nat.beq zv.cells.toList.length i.size with
        | false => simp only [hb] at h; cases h
        | true =>
          simp only [hb, Option.some.injEq] at h
          exact ⟨i, zv, rfl, hz, h, h ▸ ho, by simpa using Nat.eq_of_beq_eq_true hb⟩
theorem snd_alloc {e : TypeId} {z : List Value} (ho : o.op = .alloc e) (hz : zeroOf P e = some z) : Snd P cx o (oAlloc e z) := fun B ρ en h w a v h' E R hg => by
  obtain ⟨i, zv, hi, hiz, hzc, hok, _⟩ := zeroOf_some hz
  simp only [oAlloc, Option.some.injEq, Prod.mk.injEq] at hg
  obtain ⟨rfl, rfl⟩ := hg
  refine ⟨.pointer (some ⟨w.heap.size, 0, none⟩), w.alloc (.cells zv.cells e), _, .inl ?_, ?_, step_new (w := w) R rfl rfl rfl rfl e 0 z zv.cells z (okCL_VL hok) (by rw [← hzc, Array.length_toList, List.take_of_length_le (by simp)])⟩
  · simp [execOp, ho, Instr.alloc, zeroValue, info_run hi, hiz, newVar, Go.newRow]
  · exact .ptr h.nx 0 _ (Ren.add_same _ _ _)
theorem VR.ne_dunno_cells {ρ : Ren} {v v' : Value} (h : VR ρ v v') (hne : v ≠ .chan none) : VL ρ (cellsL v) v'.cells.toList := h.cells hne
theorem snd_box {e : TypeId} {x : Operand} {y : GX} (ho : o.op = .box e x) (hx : gx cx x = some y) : Snd P cx o (oBox e y) := fun B ρ en h w a v h' E R hg => by
  have hv := gx_VR E hx
  simp only [oBox] at hg
  cases hd : isDunno (ev en y) with
  | true => rw [hd] at hg; cases hg
  | false =>
    rw [hd] at hg
    simp only [Option.some.injEq, Prod.mk.injEq] at hg
    obtain ⟨rfl, rfl⟩ := hg
    have hne : ev en y ≠ .chan none := fun e1 => by rw [e1] at hd; cases hd
    refine ⟨.pointer (some ⟨w.heap.size, 0, none⟩), w.alloc (.cells (a.eval x).cells e), _, .inl ?_, .ptr h.nx 0 _ (Ren.add_same _ _ _), step_new (w := w) R rfl rfl rfl rfl e 0 _ (a.eval x).cells _ (hv.cells hne) (by rw [Array.length_toList, List.take_of_length_le (by simp)])⟩
    simp [execOp, ho, Instr.box, newVar, Go.newRow]
end
end Go.Gev

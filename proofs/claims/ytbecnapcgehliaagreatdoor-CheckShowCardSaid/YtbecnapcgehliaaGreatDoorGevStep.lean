/- The evaluator's runs are the model's: an operation, the operations of a region. -/
import Derived.Test.YtbecnapcgehliaaGreatDoorGevRun
import Derived.LoopN
namespace Go.Gev
open Go.RowKit

def exOf : Ex → Exit
  | .nor => .normal
  | .ret => .ret
  | .exit id => .exit id

/-- what holds behind a piece of code -/
def CP (B : Nat) (ρ : Ren) (h : Hs) (w : World) (sl : List Nat) (N : Nat) (df : List Deferred) (e : Ex) (fr' : Fr) (h' : Hs) : Exit → Act → World → Prop := fun x a' w' =>
  x = exOf e ∧ a'.defers = df ∧ ∃ ρ', FrR ρ' sl N fr' a'.tmps ∧ St B ρ h w ρ' h' w'

theorem CP.trans {B : Nat} {ρ ρ1 : Ren} {h h1 h' : Hs} {w w1 : World} {sl : List Nat} {N : Nat} {df : List Deferred} {e : Ex} {fr' : Fr} {x : Exit} {a' : Act} {w' : World} (R : HR B ρ h w) (s : St B ρ h w ρ1 h1 w1)
    (c : CP B ρ1 h1 w1 sl N df e fr' h' x a' w') : CP B ρ h w sl N df e fr' h' x a' w' := by
  obtain ⟨h1, h2, ρ', h3, h4⟩ := c
  exact ⟨h1, h2, ρ', h3, St.trans R s h4⟩

structure Good (P : Program) (R : Rn) : Prop where
  code : ∀ (c : Code) (N : Nat) (sl : List Nat) (fr fr' : Fr) (h h' : Hs) (e : Ex) (B : Nat) (ρ : Ren) (a : Act) (w : World), R (.code (gcode P N sl c)) fr h = some (.fin e fr' h') → FrR ρ sl N fr a.tmps → HR B ρ h w →
    c.wp P (CP B ρ h w sl N a.defers e fr' h') a w
  loop : ∀ (c : Code) (N : Nat) (sl : List Nat) (fr fr' : Fr) (h h' : Hs) (e : Ex), R (.code (.loop (gcode P N sl c))) fr h = some (.fin e fr' h') → ∃ n, ∀ (B : Nat) (ρ : Ren) (a : Act) (w : World) (Q : Exit → Act → World → Prop), FrR ρ sl N fr a.tmps → HR B ρ h w →
    (∀ x a' w', CP B ρ h w sl N a.defers e fr' h' x a' w' → Q x a' w') → Code.rounds P c Q n a w
  call : ∀ (f : FuncId) (args : List Value) (args' : Array Value) (v : Value) (h h' : Hs) (B : Nat) (ρ : Ren) (w : World), R (.call f args) .e h = some (.val v h') → VL ρ args args'.toList → HR B ρ h w →
    Calls P f args' w (fun e w' => ∃ v' ρ', e = .returned v' ∧ VR ρ' v v' ∧ St B ρ h w ρ' h' w')

/-- no function with a body is the one that the model stands in for -/
def Named (P : Program) : Prop := ∀ (f : FuncId) (fn : Func), P.funcs[f]? = some fn → fn.body.isSome = true → (fn.name == "runtime.NumGoroutine") = false

/-- what is called, and answers, is a function of the program -/
def HC (P : Program) (R : Rn) : Prop := ∀ (ρ : Ren) (f : FuncId) (args args' : List Value) (v : Value) (h h' : Hs), VL ρ args args' → R (.call f args) .e h = some (.val v h') → ∃ g, FF P f = some g

section
variable {P : Program} {R : Rn}

theorem callFunc_run (hN : Named P) {f : FuncId} {g : GFn} (hg : FF P f = some g) (args : Array Value) (w : World) : (callFunc f args).run P w = .ok (.enter f args) w := by
  unfold FF at hg
  cases hd : P.funcs.toList.drop f with
  | nil => rw [hd] at hg; cases hg
  | cons fn rest =>
    rw [hd] at hg
    have hf : P.funcs[f]? = some fn := by
      have : (P.funcs.toList.drop f)[0]? = some fn := by rw [hd]; rfl
      simpa using this
    have hb : fn.body.isSome = true := by
      cases hb : fn.body with
      | none => simp only [gfn, hb] at hg; cases hg
      | some b => rfl
    have hnm := hN f fn hf hb
    have hb2 : fn.body.isNone = false := by cases hbb : fn.body with | none => rw [hbb] at hb; cases hb | some b => rfl
    simp only [callFunc, Sem.run_bind, run_program, Result.andThen_ok, hf, hnm, hb2, Bool.false_eq_true, if_false]
    rfl

theorem gopS_call {cx : Cx} {o : Oper} {f : FuncId} {args : List GX} (h : gopS P cx o = some (.call f args)) : ∃ c, o.op = .call c ∧ c.callee = .value (.func f) ∧ gxs cx c.args.toList = some args := by
  unfold gopS at h
  split at h
  case h_23 c ho =>
    split at h
    · rename_i f0 hc
      simp only [Option.bind_eq_bind, Option.bind_eq_some_iff, Option.some.injEq, GOp.call.injEq] at h
      obtain ⟨xs, hx, rfl, rfl⟩ := h
      exact ⟨c, ho, hc, hx⟩
    all_goals (repeat' (split at h))
    all_goals simp [Option.bind_eq_some_iff] at h
  all_goals (repeat' (split at h))
  all_goals simp [Option.bind_eq_some_iff] at h
theorem gopS_callv {cx : Cx} {o : Oper} {f : GX} {args : List GX} (h : gopS P cx o = some (.callv f args)) : ∃ c x, o.op = .call c ∧ c.callee = .value x ∧ gx cx x = some f ∧ gxs cx c.args.toList = some args := by
  unfold gopS at h
  split at h
  case h_23 c ho =>
    split at h
    · simp [Option.bind_eq_some_iff] at h
    · rename_i x hn hc
      simp only [Option.bind_eq_bind, Option.bind_eq_some_iff, Option.some.injEq, GOp.callv.injEq] at h
      obtain ⟨y, hy, xs, hx, rfl, rfl⟩ := h
      exact ⟨c, x, ho, hc, hy, hx⟩
    all_goals (repeat' (split at h))
    all_goals simp [Option.bind_eq_some_iff] at h
  all_goals (repeat' (split at h))
  all_goals simp [Option.bind_eq_some_iff] at h

/-- what an operation does, whichever it is: then the rest -/
theorem op_wp (hN : Named P) (G : Good P R) (hcall : HC P R) {cx : Cx} {o : Oper} {en : En} {h : Hs} {B : Nat} {ρ : Ren} {a : Act} {w : World} {K : Value → Hs → Option Out} {out : Out}
    {next : Act → World → Prop} {Q : Exit → Act → World → Prop} (E : EnR ρ cx en a.tmps) (Rl : HR B ρ h w) (he : doOp R en h K (gop P cx o) = some out)
    (hk : ∀ v h' v' w' ρ', K v h' = some out → VR ρ' v v' → St B ρ h w ρ' h' w' → next (a.put o.dst v') w') : o.wp P a w next Q := by
  -- a call of a function of the program
  have callCase : ∀ (f : FuncId) (args : List Value) (args' : Array Value) (c : Call), o.op = .call c → isVal K (R (.call f args) .e h) = some out → VL ρ args args'.toList →
      (execOp a.eval o).run P w = (callFunc f args').run P w → o.wp P a w next Q := fun f args args' c ho hv hl hx => by
    cases hr : R (.call f args) .e h with
    | none => rw [hr] at hv; cases hv
    | some x => cases x with
      | fin e fr h2 => rw [hr] at hv; cases hv
      | val v h2 =>
        rw [hr] at hv
        obtain ⟨g, hg⟩ := hcall _ _ _ _ _ _ _ hl hr
        have hc := G.call f args args' v h h2 B ρ w hr hl Rl
        unfold Oper.wp
        rw [hx, callFunc_run hN hg]
        simp only [Oper.upon]
        refine hc.mono fun e w' he2 => ?_
        obtain ⟨v', ρ', rfl, h1, h3⟩ := he2
        exact hk v h2 v' w' ρ' hv h1 h3
  unfold gop at he
  cases hX : gopX P cx o with
  | some g =>
    rw [hX] at he
    simp only [doOp] at he
    cases hg : g en h with
    | none => rw [hg] at he; cases he
    | some p =>
      rw [hg] at he
      obtain ⟨v', w', ρ', hd, hv, hst⟩ := gopX_sound hX B ρ en h w a p.1 p.2 E Rl hg
      have := hk p.1 p.2 v' w' ρ' he hv hst
      unfold Oper.wp
      rcases hd with hd | ⟨hd, rfl⟩
      · rw [hd]; exact this
      · rw [hd]; exact this
  | none =>
  rw [hX] at he
  simp only at he
  cases hs : gopS P cx o with
  | none =>
    rw [hs] at he
    simp [doOp, oBad, after] at he
  | some go =>
    rw [hs] at he
    cases go with
    | fn g =>
      simp only [doOp] at he
      cases hg : g en h with
      | none => rw [hg] at he; cases he
      | some p =>
        rw [hg] at he
        obtain ⟨v', w', ρ', hd, hv, hst⟩ := gopS_sound hs B ρ en h w a p.1 p.2 E Rl hg
        have := hk p.1 p.2 v' w' ρ' he hv hst
        unfold Oper.wp
        rcases hd with hd | ⟨hd, rfl⟩
        · rw [hd]; exact this
        · rw [hd]; exact this
    | call f args =>
      simp only [doOp] at he
      obtain ⟨c, ho, hc, hx⟩ := gopS_call hs
      refine callCase f _ (c.args.map a.eval) c ho he (by simpa using gxs_VL E hx) ?_
      simp [execOp, ho, resolve, hc, Act.eval, Deferred.ofValue, invoke]
    | callv f args =>
      simp only [doOp] at he
      obtain ⟨c, x, ho, hc, hf, hx⟩ := gopS_callv hs
      have hv := gx_VR E hf
      generalize hq : a.eval x = fv at hv
      generalize hev : ev en f = fa at hv he
      cases fa with
      | func fn first captured =>
        cases fn with
        | func g =>
          cases hv with
          | func _ _ f' _ c' hn h1 h2 h3 h4 =>
            refine callCase g _ (f' ++ c.args.map a.eval ++ c') c ho he ?_ ?_
            · have e1 := VL.arr h1 h2
              have e2 := VL.arr h3 h4
              have e3 := gxs_VL E hx
              have := (e1.append e3).append e2
              simpa using this
            · simp [execOp, ho, resolve, hc, hq, Deferred.ofValue, invoke]
        | _ => simp [callV, isVal] at he
      | _ => simp [callV, isVal] at he

theorem runOps_cons (R : Rn) (o : GOper) (rest : List GOper) (fr : Fr) (loc : List Value) (h : Hs) :
    runOps R (o :: rest) fr loc h = opGo R ⟨fr, loc⟩ h o (fun v h' => runOps R rest (put o.dst v fr) (v :: loc) h') (goes ⟨fr, loc⟩ o.guard) := rfl
theorem runOps_nil (R : Rn) (fr : Fr) (loc : List Value) (h : Hs) : runOps R [] fr loc h = some (.fin .nor fr h) := rfl

theorem put_defers (a : Act) (d : Option Tmp) (v : Value) : (a.put d v).defers = a.defers := by cases d <;> rfl

/-- the operations of a region, in the order of the text -/
theorem ops_wp (hN : Named P) (G : Good P R) (hcall : HC P R) {N : Nat} {sl : List Nat} {ops : Array Oper} {B : Nat} {fr' : Fr} {h' : Hs} {e : Ex} {df0 : List Deferred} {ρ0 : Ren} {h0 : Hs} {w0 : World} (R0 : HR B ρ0 h0 w0) :
    ∀ (rest : List Oper) (k : Nat) (df : List (Option Nat)) (fr : Fr) (loc : List Value) (h : Hs) (ρ : Ren) (a : Act) (w : World), ops.toList.drop k = rest → k + rest.length = ops.size → runOps R (gopers P N sl ops rest df) fr loc h = some (.fin e fr' h') →
      LoR ρ sl N fr loc df a.tmps → St B ρ0 h0 w0 ρ h w → a.defers = df0 → wpOps P ops (CP B ρ0 h0 w0 sl N df0 e fr' h') (List.range' k rest.length) a w := by
  intro rest
  induction rest with
  | nil =>
    intro k df fr loc h ρ a w _ _ hr L S hd
    simp only [gopers, runOps_nil, Option.some.injEq, Out.fin.injEq] at hr
    obtain ⟨rfl, rfl, rfl⟩ := hr
    exact ⟨rfl, hd, ρ, L.toFrR, S⟩
  | cons o rest ih =>
    intro k df fr loc h ρ a w hdrop hlen hr L S hd
    have hok : ops[k]? = some o := by
      have : (ops.toList.drop k)[0]? = some o := by rw [hdrop]; rfl
      simpa using this
    have hdrop2 : ops.toList.drop (k + 1) = rest := by
      have : (ops.toList.drop k).drop 1 = rest := by rw [hdrop]; rfl
      rw [← this, List.drop_drop]
    simp only [gopers, runOps_cons] at hr
    simp only [List.length_cons, List.range'_succ, wpOps, hok]
    cases hg : goes ⟨fr, loc⟩ (goper P (plainCx sl df) sl ops o).guard with
    | none => rw [hg] at hr; cases hr
    | some b =>
      rw [hg] at hr
      have hw := goes_spec L (ops := ops) (o := o) hg
      rw [hw]
      cases b with
      | false =>
        simp only [opGo] at hr
        simp only [Bool.false_eq_true, if_false]
        exact ih (k + 1) _ _ _ h ρ (a.put o.dst undef) w hdrop2 (by simp at hlen; omega) hr (L.put VR.undef_inv) S (by rw [put_defers]; exact hd)
      | true =>
        simp only [opGo] at hr
        simp only [if_true]
        left
        refine op_wp hN G hcall L.en S.hr hr (fun v h1 v' w' ρ' hK hv hst => ?_)
        exact ih (k + 1) _ _ _ h1 ρ' (a.put o.dst v') w' hdrop2 (by simp at hlen; omega) hK ((L.mono hst.le).put hv) (St.trans R0 S hst) (by rw [put_defers]; exact hd)
end
end Go.Gev

/- Each operation of the evaluator does what the model's does (2): loads, stores, numbers. -/
import Derived.Test.YtbecnapcgehliaaGreatDoorGevOp1
import Derived.WalkLawsBesides
namespace Go.Gev
open Go.RowKit

section
variable {P : Program} {cx : Cx} {o : Oper}

theorem size_run {t : TypeId} {n : Nat} (h : sizeOfT P t = some n) (w : World) : (sizeOf t).run P w = .ok n w := by
  unfold sizeOfT at h
  cases hi : P.info? t with
  | none => rw [hi] at h; cases h
  | some i => rw [hi] at h; injection h with h; subst h; simp [sizeOf, info_run hi]
theorem under_run {t : TypeId} {d : TypeDesc} (h : P.underlying t = some d) (w : World) : (underlying t).run P w = .ok d w := by simp [underlying, h]
theorem isAgg_run {t : TypeId} {b : Bool} (h : isAggT P t = some b) (w : World) : (isAgg t).run P w = .ok b w := by
  unfold isAggT at h
  cases hu : P.underlying t with
  | none => rw [hu] at h; cases h
  | some d =>
    rw [hu] at h
    simp only [isAgg, Sem.run_bind, under_run hu, Result.andThen_ok]
    cases d <;> (injection h with h; subst h; rfl)

theorem cell_load {w : World} {a : Addr} {v : Value} (h : w.cell? a = some v) : (load a).run P w = .ok v w := by
  simp [h]
theorem snd_load {t : TypeId} {x : Operand} {y : GX} (ho : o.op = .load t x) (hx : gx cx x = some y) (ha : isAggT P t = some false) : Snd P cx o (oLoad y) :=
  snd_still fun B ρ en h w a v h' E R e => by
    have hv := gx_VR E hx
    unfold oLoad at e
    cases hp : addrOf (ev en y) with
    | none => rw [hp] at e; cases e
    | some p =>
      rw [hp] at e
      obtain ⟨e1, rfl⟩ := ret1_some e
      obtain ⟨H, hH, _, hax⟩ := addrOf_VR hv hp
      obtain ⟨H', v', h1, h2, h3⟩ := R.cell e1
      rw [hH] at h1
      injection h1 with h1
      subst h1
      refine ⟨rfl, v', ?_, h3⟩
      simp only [execOp, ho, hax, Instr.loadAt, Instr.sureAddr, loadVar, Sem.run_bind, Sem.run_pure, Result.andThen_ok, isAgg_run ha, Bool.false_eq_true, if_false, cell_load h2]
theorem snd_loads {t : TypeId} {x : Operand} {y : GX} {n : Nat} (ho : o.op = .load t x) (hx : gx cx x = some y) (ha : isAggT P t = some true) (hn : sizeOfT P t = some n) : Snd P cx o (oLoads n y) :=
  snd_still fun B ρ en h w a v h' E R e => by
    have hv := gx_VR E hx
    unfold oLoads at e
    cases hp : addrOf (ev en y) with
    | none => rw [hp] at e; cases e
    | some p =>
      rw [hp] at e
      simp only [loads1] at e
      cases hc : blkCells n p.2 (h.hp.get p.1) with
      | none => rw [hc] at e; cases e
      | some vs =>
        rw [hc] at e
        simp only [build1, Option.some.injEq, Prod.mk.injEq] at e
        obtain ⟨rfl, rfl⟩ := e
        obtain ⟨H, hH, _, hax⟩ := addrOf_VR hv hp
        obtain ⟨H', ys, h1, h2, h3, h4⟩ := R.cells hc
        rw [hH] at h1
        injection h1 with h1
        subst h1
        refine ⟨rfl, .agg ys.toArray, ?_, VR.agg_of h2⟩
        have hl := run_loadCells_list (P := P) (w := w) ⟨H.blk, H.off + p.2, none⟩ ys h4
        have hl' : ys.length = n := by rw [← h2.1]; exact h3
        rw [hl'] at hl
        simp only [execOp, ho, hax, Instr.loadAt, Instr.sureAddr, loadVar, Sem.run_bind, Sem.run_pure, Result.andThen_ok, isAgg_run ha, if_true, size_run hn, hl]
theorem snd_store {t : TypeId} {x y : Operand} {x' y' : GX} {n : Nat} (ho : o.op = .store t x y) (hx : gx cx x = some x') (hy : gx cx y = some y') (hn : sizeOfT P t = some n) : Snd P cx o (oStore n x' y') :=
  fun B ρ en h w a v h' E R e => by
    have hv := gx_VR E hx
    have hw := gx_VR E hy
    unfold oStore store1 at e
    cases hb : Nat.beq (cellsL (ev en y')).length n with
    | false => rw [hb] at e; cases e
    | true =>
      rw [hb] at e
      cases hp : addrOf (ev en x') with
      | none => rw [hp] at e; cases e
      | some p =>
        rw [hp] at e
        simp only [store2] at e
        cases hs : storeB h p.1 p.2 (cellsL (ev en y')) (h.hp.get p.1) with
        | none => rw [hs] at e; cases e
        | some h2 =>
          rw [hs] at e
          simp only [unit1, Option.some.injEq, Prod.mk.injEq] at e
          obtain ⟨rfl, rfl⟩ := e
          have hne : ev en y' ≠ .chan none := fun e1 => by
            rw [e1] at hs
            cases hg : h.hp.get p.1 with
            | none => rw [hg] at hs; cases hs
            | some b => rw [hg] at hs; cases b with
              | mp => cases hs
              | it => cases hs
              | lp => cases hs
              | row c m e u rw_ fl => cases rw_ <;> simp [storeB, cellsL, storeN, oneC, setRow] at hs
          have hcs := hw.cells hne
          obtain ⟨H, hH, _, hax⟩ := addrOf_VR hv hp
          obtain ⟨H', w', h1, hrun, hst⟩ := step_store P R hs hcs
          rw [hH] at h1
          injection h1 with h1
          subst h1
          have hsz : (a.eval y).cells.size = n := by
            have := hcs.1
            rw [Nat.eq_of_beq_eq_true hb] at this
            simpa using this.symm
          refine ⟨undef, w', ρ, .inr ⟨?_, rfl⟩, VR.undef_inv, hst⟩
          simp only [execOp, ho, hax, Instr.storeAt, Instr.sureAddr, storeVar, Sem.run_bind, Sem.run_pure, Result.andThen_ok, size_run hn, hsz, ne_eq, not_true_eq_false, if_false, hrun]
theorem snd_nilc {x : Operand} {y : GX} (ho : o.op = .nilCheck x) (hx : gx cx x = some y) : Snd P cx o (oNilc y) :=
  snd_still fun B ρ en h w a v h' E R e => by
    have hv := gx_VR E hx
    obtain ⟨e1, rfl⟩ := ret1_some (show ret1 h (nilc1 (ev en y)) = _ from e)
    generalize ev en y = u at hv e1
    generalize hq : a.eval x = u' at hv
    cases hv with
    | ptr id off H hh =>
      simp only [nilc1, Option.some.injEq] at e1
      subst e1
      exact ⟨rfl, _, by simp [execOp, ho, hq], .ptr id off H hh⟩
    | func fn f f' c c' hn h1 h2 h3 h4 =>
      cases fn with
      | func g =>
        simp only [nilc1, Option.some.injEq] at e1
        subst e1
        exact ⟨rfl, _, by simp [execOp, ho, hq], .func _ f f' c c' hn h1 h2 h3 h4⟩
      | _ => cases e1
    | _ => cases e1

/-- an operation of two operands that the model runs as 'binOp' -/
theorem snd_bin {op : BinOp} {t yt : TypeId} {x y : Operand} {x' y' : GX} {f : Value → Value → Option Value} (ho : o.op = .binOp op t x y yt) (hx : gx cx x = some x') (hy : gx cx y = some y')
    (H : ∀ (ρ : Ren) (w : World) (u u2 v v2 r : Value), VR ρ u v → VR ρ u2 v2 → f u u2 = some r → ∃ r', (do eqGuard op t x y v v2; binOp op t v v2 : Sem Value).run P w = .ok r' w ∧ VR ρ r r') : Snd P cx o (oV2 f x' y') :=
  snd_still fun B ρ en h w a v h' E R e => by
    obtain ⟨e1, rfl⟩ := ret1_some (show ret1 h (f (ev en x') (ev en y')) = _ from e)
    obtain ⟨r', h1, h2⟩ := H ρ w _ _ _ _ _ (gx_VR E hx) (gx_VR E hy) e1
    refine ⟨rfl, r', ?_, h2⟩
    rw [show (execOp a.eval o) = (do pure (.value (← (do eqGuard op t x y (a.eval x) (a.eval y); binOp op t (a.eval x) (a.eval y)))) : Sem Next) from by simp only [execOp, ho]]
    simp only [Sem.run_bind] at h1 ⊢
    rw [h1]
    rfl

theorem kn_inj {k k' : IntKind} (h : Nat.beq (kn k) (kn k') = true) : k = k' := by
  cases k <;> cases k' <;> first | rfl | (simp [kn] at h)
theorem i2_some {f : F2} {x y r : Value} (h : i2 f x y = some r) : ∃ k a b, x = .int k a ∧ y = .int k b ∧ f k a b = some r := by
  cases x with
  | int k a => cases y with
    | int k' b =>
      simp only [i2, i2b] at h
      cases hb : Nat.beq (kn k) (kn k') with
      | false => rw [hb] at h; cases h
      | true => rw [hb] at h; obtain rfl := kn_inj hb; exact ⟨k, a, b, rfl, rfl, h⟩
    | _ => cases h
  | _ => cases h

theorem bits_nat (k : IntKind) (m : Nat) : (BitVec.ofInt k.bits (Int.ofNat m)).toNat = m % 2 ^ k.bits := by
  simp
theorem snd_i2 {op : BinOp} {t yt : TypeId} {x y : Operand} {x' y' : GX} (hop : op ≠ .shl ∧ op ≠ .shr) (ho : o.op = .binOp op t x y yt) (hx : gx cx x = some x') (hy : gx cx y = some y') : Snd P cx o (oV2 (i2 (fOf op)) x' y') :=
  snd_bin ho hx hy fun ρ w u u2 v v2 r hu hu2 e => by
    obtain ⟨k, a, b, rfl, rfl, hf⟩ := i2_some e
    obtain rfl := hu.int_inv
    obtain rfl := hu2.int_inv
    have hg : eqGuard op t x y (.int k a) (.int k b) = pure () := by cases op <;> rfl
    rw [hg]
    simp only [Sem.run_bind, Sem.run_pure, Result.andThen_ok]
    cases op with
    | add => simp only [fOf, fAdd, Option.some.injEq] at hf; subst hf; exact ⟨_, by rw [binOp_add]; simp [Op.intArith]; rfl, by rw [wrapF_eq]; exact .int _ _⟩
    | sub => simp only [fOf, fSub, Option.some.injEq] at hf; subst hf; exact ⟨_, by rw [binOp_sub]; simp [Op.intArith]; rfl, by rw [wrapF_eq]; exact .int _ _⟩
    | mul => simp only [fOf, fMul, Option.some.injEq] at hf; subst hf; exact ⟨_, by rw [binOp_mul]; simp [Op.intArith]; rfl, by rw [wrapF_eq]; exact .int _ _⟩
    | quo =>
      simp only [fOf, fQuo] at hf
      cases hb : eqI b 0 with
      | true => rw [hb] at hf; cases hf
      | false =>
        rw [hb] at hf
        injection hf with hf
        subst hf
        rw [eqI_eq] at hb
        have : b ≠ 0 := by simpa using hb
        exact ⟨_, by rw [binOp_quo]; simp [Op.intDiv, this]; rfl, by rw [wrapF_eq]; exact .int _ _⟩
    | rem =>
      simp only [fOf, fRem] at hf
      cases hb : eqI b 0 with
      | true => rw [hb] at hf; cases hf
      | false =>
        rw [hb] at hf
        injection hf with hf
        subst hf
        rw [eqI_eq] at hb
        have : b ≠ 0 := by simpa using hb
        exact ⟨_, by rw [binOp_rem]; simp [Op.intDiv, this], .int _ _⟩
    | eql => simp only [fOf, fEql, Option.some.injEq] at hf; subst hf; exact ⟨_, by rw [binOp_eql]; rfl, by rw [eqI_eq]; exact .bool _⟩
    | neq =>
      simp only [fOf, fNeq, Option.some.injEq] at hf; subst hf
      exact ⟨_, by rw [binOp_neq]; rfl, by rw [eqI_eq]; have : notB (a == b) = (a != b) := by cases h : (a == b) <;> simp [notB, bne, h]
                                           rw [this]; exact .bool _⟩
    | lss => simp only [fOf, fLss, Option.some.injEq] at hf; subst hf; exact ⟨_, by rw [binOp_lss]; rfl, by rw [ltI_eq]; exact .bool _⟩
    | leq => simp only [fOf, fLeq, Option.some.injEq] at hf; subst hf; exact ⟨_, by rw [binOp_leq]; rfl, by rw [leI_eq]; exact .bool _⟩
    | gtr => simp only [fOf, fGtr, Option.some.injEq] at hf; subst hf; exact ⟨_, by rw [binOp_gtr]; rfl, by rw [ltI_eq]; exact .bool _⟩
    | geq => simp only [fOf, fGeq, Option.some.injEq] at hf; subst hf; exact ⟨_, by rw [binOp_geq]; rfl, by rw [leI_eq]; exact .bool _⟩
    | shl => exact absurd rfl hop.1
    | shr => exact absurd rfl hop.2
    | and =>
      cases a with
      | negSucc a => cases hf
      | ofNat a => cases b with
        | negSucc b => cases hf
        | ofNat b =>
          simp only [fOf, fBits, bitI, Option.some.injEq] at hf; subst hf
          refine ⟨_, by rw [binOp_and]; rfl, ?_⟩
          rw [wrapF_eq]
          simp only [BitVec.toNat_and, bits_nat]
          exact .int _ _
    | or =>
      cases a with
      | negSucc a => cases hf
      | ofNat a => cases b with
        | negSucc b => cases hf
        | ofNat b =>
          simp only [fOf, fBits, bitI, Option.some.injEq] at hf; subst hf
          refine ⟨_, by rw [binOp_or]; rfl, ?_⟩
          rw [wrapF_eq]
          simp only [BitVec.toNat_or, bits_nat]
          exact .int _ _
    | xor =>
      cases a with
      | negSucc a => cases hf
      | ofNat a => cases b with
        | negSucc b => cases hf
        | ofNat b =>
          simp only [fOf, fBits, bitI, Option.some.injEq] at hf; subst hf
          refine ⟨_, by rw [binOp_xor]; rfl, ?_⟩
          rw [wrapF_eq]
          simp only [BitVec.toNat_xor, bits_nat]
          exact .int _ _
    | andNot =>
      cases a with
      | negSucc a => cases hf
      | ofNat a => cases b with
        | negSucc b => cases hf
        | ofNat b =>
          simp only [fOf, fBits, bitI, Option.some.injEq] at hf; subst hf
          refine ⟨_, by rw [binOp_andNot]; rfl, ?_⟩
          rw [wrapF_eq]
          simp only [BitVec.toNat_and, BitVec.toNat_not, bits_nat]
          exact .int _ _
end
end Go.Gev

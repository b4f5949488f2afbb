/- Each operation of the evaluator does what the model's does (4): slices, structs, '=='. -/
import Derived.Test.YtbecnapcgehliaaGreatDoorGevOp3
import Derived.Laws.MakeOwn
import Derived.Laws.Slices
namespace Go.Gev
open Go.RowKit

section
variable {P : Program} {cx : Cx} {o : Oper}

theorem rep_get {z : List Value} : ∀ (n i : Nat), 0 < z.length → (rep z n)[i]? = if i < n * z.length then z[i % z.length]? else none := by
  intro n
  induction n with
  | zero => intro i _; simp [rep]
  | succ n ih =>
    intro i hz
    simp only [rep]
    by_cases hi : i < z.length
    · rw [List.getElem?_append_left hi, Nat.mod_eq_of_lt hi, if_pos (by rw [Nat.succ_mul]; omega)]
    · rw [List.getElem?_append_right (by omega), ih _ hz]
      have e : (i - z.length) % z.length = i % z.length := by
        conv => rhs; rw [show i = (i - z.length) + z.length from by omega, Nat.add_mod_right]
      rw [e]
      by_cases h2 : i - z.length < n * z.length
      · rw [if_pos h2, if_pos (by rw [Nat.succ_mul]; omega)]
      · rw [if_neg h2, if_neg (by rw [Nat.succ_mul]; omega)]
theorem rep_length {z : List Value} (n : Nat) : (rep z n).length = n * z.length := by
  induction n with
  | zero => simp [rep]
  | succ n ih => simp [rep, ih, Nat.succ_mul]; omega
/-- the model's row of zero elements is the evaluator's -/
theorem madeCells_rep (z : Array Value) (n : Nat) (hz : 0 < z.size) : (madeCells z (n * z.size)).toList = rep z.toList n := by
  apply List.ext_getElem?
  intro i
  rw [rep_get n i (by simpa using hz)]
  simp only [madeCells, Array.toList_map, Array.toList_range, List.getElem?_map, Array.length_toList]
  by_cases hi : i < n * z.size
  · have hm : i % z.size < z.size := Nat.mod_lt _ hz
    rw [if_pos hi, List.getElem?_range hi]
    simp [hm]
  · rw [if_neg hi, List.getElem?_eq_none (by simp; omega)]
    rfl
theorem VL.rep {ρ : Ren} {z : List Value} (h : okCL z = true) (n : Nat) : VL ρ (rep z n) (Gev.rep z n) := by
  induction n with
  | zero => exact VL.nil
  | succ n ih => exact VL.append (okCL_VL h) ih

theorem snd_mkslice {t e : TypeId} {u b : Nat} {z : List Value} {l c : Operand} {l' c' : GX} (ho : o.op = .makeSlice t l c) (ht : P.underlying t = some (.slice e)) (hu : sizeOfT P e = some u) (hu0 : u ≠ 0) (hb : bytesOfT P e = some b) (hb0 : b ≠ 0)
    (hz : zeroOf P e = some z) (hl : gx cx l = some l') (hc : gx cx c = some c') : Snd P cx o (oMkslice e u b z l' c') := fun B ρ en h w a v h' E R hg => by
  unfold oMkslice at hg
  cases hnl : natOf (ev en l') with
  | none => rw [hnl] at hg; cases hg
  | some ln =>
    cases hnc : natOf (ev en c') with
    | none => rw [hnl, hnc] at hg; cases hg
    | some cn =>
      rw [hnl, hnc] at hg
      simp only [mkslice1] at hg
      cases h1 : Nat.ble ln cn with
      | false => rw [h1] at hg; cases hg
      | true =>
        rw [h1] at hg
        cases h2 : Nat.ble (Nat.mul b cn) 281474976710656 with
        | false => rw [h2] at hg; cases hg
        | true =>
          rw [h2] at hg
          simp only [Option.some.injEq, Prod.mk.injEq] at hg
          obtain ⟨rfl, rfl⟩ := hg
          obtain ⟨kl, _, hql⟩ := natOf_VR (gx_VR E hl) hnl
          obtain ⟨kc, _, hqc⟩ := natOf_VR (gx_VR E hc) hnc
          obtain ⟨i, zv, hi, hiz, hzc, hok, hzs⟩ := zeroOf_some hz
          have hiu : i.size = u := by unfold sizeOfT at hu; rw [hi] at hu; injection hu
          have hib : i.bytes = b := by unfold bytesOfT at hb; rw [hi] at hb; injection hb
          have hlc := Nat.le_of_ble_eq_true h1
          have hbc : b * cn ≤ 281474976710656 := Nat.le_of_ble_eq_true h2
          have hcn : cn ≤ 281474976710656 := Nat.le_trans (Nat.le_mul_of_pos_left cn (by omega)) hbc
          have hbi : (b : Int) * (cn : Int) ≤ 281474976710656 := by
            have h9 : ((b * cn : Nat) : Int) ≤ 281474976710656 := by omega
            rwa [Int.natCast_mul] at h9
          have hr := run_make (P := P) w t e i zv ht hi hiz kl kc (ln : Int) (cn : Int) (by omega) (by omega) (by rw [hib]; exact hbi) (by omega)
          simp only [Int.toNat_natCast] at hr
          rw [hiu] at hr
          have hmc : (madeCells zv.cells (cn * u)).toList = rep z cn := by
            rw [← hiu, ← hzs, madeCells_rep _ _ (by omega), hzc]
          have hsz : (madeCells zv.cells (cn * u)).size = cn * u := size_madeCells _ _
          refine ⟨.slice (some ⟨w.heap.size, 0, none⟩) ln cn, _, _, .inl ?_, ?_, step_new (w := w) R rfl rfl rfl rfl e u (rep z cn) (madeCells zv.cells (cn * u)) (rep z cn) (VL.rep hok cn) ?_⟩
          · simp only [execOp, ho, hql, hqc, Sem.run_bind, hr, Result.andThen_ok, Sem.run_pure]
          · refine .slice h.nx 0 ln cn cn _ (Ren.add_same _ _ _) hlc (Nat.le_refl _) (Nat.le_trans hcn (by unfold maxLen; omega)) (.inr ?_)
            simp only [Nat.zero_add, hsz]
            exact Nat.le_refl _
          · rw [hmc, List.take_of_length_le (Nat.le_refl _)]

/-- a bound as the model has it -/
theorem gxo_cases {x : Option Operand} {y : Option GX} (h : gxo cx x = some y) : (x = none ∧ y = none) ∨ ∃ x1 y1, x = some x1 ∧ y = some y1 ∧ gx cx x1 = some y1 := by
  cases x with
  | none => simp only [gxo, Option.some.injEq] at h; subst h; exact .inl ⟨rfl, rfl⟩
  | some x1 =>
    simp only [gxo] at h
    cases h1 : gx cx x1 with
    | none => rw [h1] at h; cases h
    | some y1 => rw [h1] at h; injection h with h; subst h; exact .inr ⟨x1, y1, rfl, rfl, h1⟩
theorem top1_some {top : Nat} {x : Option Nat} {n : Nat} (h : top1 top x = some n) : x = some n ∧ n ≤ top := by
  cases x with
  | none => cases h
  | some m =>
    simp only [top1] at h
    cases hb : Nat.ble m top with
    | false => rw [hb] at h; cases h
    | true => rw [hb] at h; injection h with h; subst h; exact ⟨rfl, Nat.le_of_ble_eq_true hb⟩
/-- an optional bound: what it is in both -/
theorem bnd_spec {ρ : Ren} {en : En} {a : Act} (E : EnR ρ cx en a.tmps) {x : Option Operand} {y : Option GX} (h : gxo cx x = some y) {d top n : Nat} (hb : bnd en d top y = some n) :
    (x = none ∧ n = d) ∨ ∃ x1 k, x = some x1 ∧ a.eval x1 = .int k (n : Int) ∧ n ≤ top := by
  rcases gxo_cases h with ⟨rfl, rfl⟩ | ⟨x1, y1, rfl, rfl, h1⟩
  · simp only [bnd, Option.some.injEq] at hb; exact .inl ⟨rfl, hb.symm⟩
  · obtain ⟨e1, e2⟩ := top1_some (show top1 top (natOf (ev en y1)) = some n from hb)
    obtain ⟨k, _, hq⟩ := natOf_VR (gx_VR E h1) e1
    exact .inr ⟨x1, k, rfl, hq, e2⟩

theorem bound_run {w : World} {k : IntKind} {n top : Nat} {code : Go.BoundsCode} (hn : n ≤ top) : (Instr.sliceBound (.int k (n : Int)) top code).run P w = .ok n w := by
  have : (0 : Int) ≤ n ∧ (n : Int) ≤ top := by omega
  simp [Instr.sliceBound, asIntOf, this]

/-- the bounds of a slice of a slice; the model's room m' is no less than the evaluator's -/
theorem bounds_run {w : World} {ρ : Ren} {en : En} {a : Act} (E : EnR ρ cx en a.tmps) {lo hi mx : Option Operand} {lo' hi' mx' : Option GX} (hlo : gxo cx lo = some lo') (hhi : gxo cx hi = some hi') (hmx : gxo cx mx = some mx')
    {len cap cap2 m hh l : Nat} (hlc : len ≤ cap) (hcc : cap ≤ cap2) (h1 : bnd en cap cap mx' = some m) (h2 : bnd en len m hi' = some hh) (h3 : bnd en 0 hh lo' = some l) (isS : Bool) (hmh : mx = none ∨ hi ≠ none) :
    ∃ m2, (Instr.sliceBounds isS len cap2 (lo.map a.eval) (hi.map a.eval) (mx.map a.eval)).run P w = .ok (l, hh, m2) w ∧ m ≤ m2 ∧ m2 ≤ cap2 ∧ hh ≤ m ∧ l ≤ hh := by
  have hm2 : ∃ m2, m ≤ m2 ∧ m2 ≤ cap2 ∧ ((mx = none ∧ m2 = cap2 ∧ m = cap) ∨ ∃ x1 k, mx = some x1 ∧ a.eval x1 = .int k (m2 : Int) ∧ m2 = m) := by
    rcases bnd_spec E hmx h1 with ⟨rfl, rfl⟩ | ⟨x1, k, rfl, hq, hle⟩
    · exact ⟨cap2, hcc, Nat.le_refl _, .inl ⟨rfl, rfl, rfl⟩⟩
    · exact ⟨m, Nat.le_refl _, by omega, .inr ⟨x1, k, rfl, hq, rfl⟩⟩
  obtain ⟨m2, hm2a, hm2b, hm2c⟩ := hm2
  have hl : l ≤ hh ∧ ((lo = none ∧ l = 0) ∨ ∃ x1 k, lo = some x1 ∧ a.eval x1 = .int k (l : Int)) := by
    rcases bnd_spec E hlo h3 with ⟨rfl, rfl⟩ | ⟨x1, k, rfl, hq, hle⟩
    · exact ⟨Nat.zero_le _, .inl ⟨rfl, rfl⟩⟩
    · exact ⟨hle, .inr ⟨x1, k, rfl, hq⟩⟩
  have hhm : hh ≤ m ∧ ((hi = none ∧ hh = len) ∨ ∃ x1 k, hi = some x1 ∧ a.eval x1 = .int k (hh : Int)) := by
    rcases bnd_spec E hhi h2 with ⟨rfl, rfl⟩ | ⟨x1, k, rfl, hq, hle⟩
    · refine ⟨?_, .inl ⟨rfl, rfl⟩⟩
      rcases hm2c with ⟨_, _, rfl⟩ | ⟨x1, k, rfl, _, _⟩
      · exact hlc
      · rcases hmh with hmh | hmh
        · cases hmh
        · exact absurd rfl hmh
    · exact ⟨hle, .inr ⟨x1, k, rfl, hq⟩⟩
  refine ⟨m2, ?_, hm2a, hm2b, hhm.1, hl.1⟩
  unfold Instr.sliceBounds
  rcases hm2c with ⟨rfl, rfl, _⟩ | ⟨xm, km, rfl, hqm, rfl⟩
  · rcases hhm.2 with ⟨rfl, rfl⟩ | ⟨xh, kh, rfl, hqh⟩
    · rcases hl.2 with ⟨rfl, rfl⟩ | ⟨xl, kl, rfl, hql⟩
      · simp
      · simp [hql, bound_run hl.1]
    · rcases hl.2 with ⟨rfl, rfl⟩ | ⟨xl, kl, rfl, hql⟩
      · simp [hqh, bound_run (show hh ≤ m2 from by omega)]
      · simp [hqh, hql, bound_run (show hh ≤ m2 from by omega), bound_run hl.1]
  · rcases hhm.2 with ⟨rfl, rfl⟩ | ⟨xh, kh, rfl, hqh⟩
    · rcases hmh with hmh | hmh
      · cases hmh
      · exact absurd rfl hmh
    · rcases hl.2 with ⟨rfl, rfl⟩ | ⟨xl, kl, rfl, hql⟩
      · simp [hqm, hqh, bound_run (show hh ≤ m2 from by omega), bound_run hm2b]
      · simp [hqm, hqh, hql, bound_run (show hh ≤ m2 from by omega), bound_run hm2b, bound_run hl.1]

theorem snd_slice {t e : TypeId} {u : Nat} {x : Operand} {x' : GX} {lo hi mx : Option Operand} {lo' hi' mx' : Option GX} (ho : o.op = .slice t x lo hi mx) (ht : P.underlying t = some (.slice e)) (hu : sizeOfT P e = some u)
    (hx : gx cx x = some x') (hlo : gxo cx lo = some lo') (hhi : gxo cx hi = some hi') (hmx : gxo cx mx = some mx') (hmh : mx = none ∨ hi ≠ none) : Snd P cx o (oSlice u x' lo' hi' mx') :=
  snd_still fun B ρ en h w a v h' E R e0 => by
    have hv := gx_VR E hx
    obtain ⟨e1, rfl⟩ := ret1_some (show ret1 h (slice1 h u en lo' hi' mx' (ev en x')) = _ from e0)
    refine ⟨rfl, ?_⟩
    generalize ev en x' = s at hv e1
    generalize hq : a.eval x = s' at hv
    cases s with
    | slice sa len cap =>
      simp only [slice1] at e1
      cases h1 : bnd en cap cap mx' with
      | none => rw [h1] at e1; cases e1
      | some m =>
        rw [h1] at e1
        simp only [slice2] at e1
        cases h2 : bnd en len m hi' with
        | none => rw [h2] at e1; cases e1
        | some hh =>
          rw [h2] at e1
          simp only [slice3] at e1
          cases h3 : bnd en 0 hh lo' with
          | none => rw [h3] at e1; cases e1
          | some l =>
            rw [h3] at e1
            have hrun : ∀ (a2 : Option Addr) (cap2 : Nat), len ≤ cap → cap ≤ cap2 → a.eval x = .slice a2 len cap2 → ∃ m2, m ≤ m2 ∧ m2 ≤ cap2 ∧ hh ≤ m ∧ l ≤ hh ∧
                (execOp a.eval o).run P w = .ok (.value (.slice (if m2 = l then a2 else a2.map (·.add (l * u))) (hh - l) (m2 - l))) w := fun a2 cap2 g1 g2 g3 => by
              obtain ⟨m2, q1, q2, q3, q4, q5⟩ := bounds_run (P := P) (w := w) E hlo hhi hmx g1 g2 h1 h2 h3 true hmh
              refine ⟨m2, q2, q3, q4, q5, ?_⟩
              simp only [execOp, ho, g3, Instr.sliceAt, Instr.slice, under_run ht, Sem.run_bind, Result.andThen_ok, q1, size_run hu, Sem.run_pure]
            cases hv with
            | nilslice =>
              obtain ⟨m2, q2, q3, q4, q5, q6⟩ := hrun none 0 (Nat.le_refl _) (Nat.le_refl _) hq
              simp only [cutA] at e1
              cases hb : Nat.beq hh 0 with
              | false => rw [hb] at e1; cases e1
              | true =>
                rw [hb] at e1
                injection e1 with e1
                subst e1
                refine ⟨_, q6, ?_⟩
                have e2 : m2 = 0 := by omega
                have e3 : l = 0 := by omega
                have e4 : hh = 0 := by omega
                subst e2; subst e3; subst e4
                exact .nilslice
            | empty b0 o0 k0 a1 c1 hc1 =>
              obtain ⟨m2, q2, q3, q4, q5, q6⟩ := hrun (some a1) c1 (Nat.le_refl _) (Nat.zero_le _) hq
              simp only [cutA] at e1
              cases hb : Nat.beq hh 0 with
              | false => rw [hb] at e1; cases e1
              | true =>
                rw [hb] at e1
                injection e1 with e1
                subst e1
                refine ⟨_, q6, ?_⟩
                have e4 : hh = 0 := Nat.eq_of_beq_eq_true hb
                have e3 : l = 0 := by omega
                subst e3; subst e4
                by_cases hm : m2 = 0
                · subst hm; exact .empty _ _ _ _ _ (Nat.zero_le _)
                · simp only [if_neg hm, Option.map_some]
                  exact .empty _ _ _ _ _ (by omega)
            | slice id off _ _ c1 H g1 g2 g3 g4 g5 =>
              obtain ⟨m2, q2, q3, q4, q5, q6⟩ := hrun _ c1 g2 g3 hq
              simp only [cutA, cutB] at e1
              cases hb : Nat.beq l 0 with
              | true =>
                rw [hb] at e1
                injection e1 with e1
                subst e1
                have e3 : l = 0 := Nat.eq_of_beq_eq_true hb
                subst e3
                refine ⟨_, q6, ?_⟩
                have : (if m2 = 0 then some (⟨H.blk, H.off + off, none⟩ : Addr) else (some (⟨H.blk, H.off + off, none⟩ : Addr)).map (·.add (0 * u))) = some ⟨H.blk, H.off + off, none⟩ := by
                  split
                  · rfl
                  · simp [Addr.add]
                rw [this]
                refine .slice id off hh m m2 H g1 q4 q2 (by omega) ?_
                rcases g5 with g5 | g5
                · exact .inl g5
                · exact .inr (Nat.le_trans (by have := Nat.mul_le_mul_right H.un q3; omega) g5)
              | false =>
                rw [hb] at e1
                have hl0 : l ≠ 0 := beq_false.1 hb
                cases hb2 : Nat.beq hh l with
                | true =>
                  rw [hb2] at e1
                  injection e1 with e1
                  subst e1
                  have e4 : hh = l := Nat.eq_of_beq_eq_true hb2
                  subst e4
                  refine ⟨_, q6, ?_⟩
                  rw [Nat.sub_self]
                  by_cases hm : m2 = hh
                  · rw [if_pos hm]; exact .empty _ _ _ _ _ (by omega)
                  · rw [if_neg hm, Option.map_some]; exact .empty _ _ _ _ _ (by omega)
                | false =>
                  rw [hb2] at e1
                  have hne : hh ≠ l := beq_false.1 hb2
                  cases hu1 : unitOk u (h'.hp.get id) with
                  | false => simp only [hu1] at e1; cases e1
                  | true =>
                    simp only [hu1, Option.some.injEq] at e1
                    subst e1
                    refine ⟨_, q6, ?_⟩
                    rw [if_neg (by omega), Option.map_some, add_block]
                    have hun : H.un = 0 ∨ H.un = u := by
                      cases hg : h'.hp.get id with
                      | none => rw [hg] at hu1; cases hu1
                      | some b => cases b with
                        | mp => rw [hg] at hu1; cases hu1
                        | it => rw [hg] at hu1; cases hu1
                        | lp => rw [hg] at hu1; cases hu1
                        | row c n e2 ub rw_ fl =>
                          rw [hg] at hu1
                          obtain ⟨H2, arr, fz, r1, r2, _⟩ := R.has id _ hg
                          rw [g1] at r1
                          injection r1 with r1
                          subst r1
                          simp only [unitOk] at hu1
                          rw [r2]
                          cases hz : Nat.beq ub 0 with
                          | true => exact .inl (Nat.eq_of_beq_eq_true hz)
                          | false => rw [hz] at hu1; exact .inr (Nat.eq_of_beq_eq_true hu1)
                    have : (⟨H.blk, H.off + off + l * u, none⟩ : Addr) = ⟨H.blk, H.off + (off + l * u), none⟩ := by rw [Nat.add_assoc]
                    rw [this]
                    refine .slice id (off + l * u) (hh - l) (m - l) (m2 - l) H g1 (Nat.sub_le_sub_right q4 l) (Nat.sub_le_sub_right q2 l) (by omega) ?_
                    rcases g5 with g5 | g5
                    · exact .inl g5
                    · rcases hun with hun | hun
                      · exact .inl hun
                      · refine .inr (Nat.le_trans ?_ g5)
                        rw [hun, Nat.sub_mul]
                        have h5 : l * u ≤ m2 * u := Nat.mul_le_mul_right u (by omega)
                        have h6 : m2 * u ≤ c1 * u := Nat.mul_le_mul_right u q3
                        omega
    | _ => cases e1
end
end Go.Gev

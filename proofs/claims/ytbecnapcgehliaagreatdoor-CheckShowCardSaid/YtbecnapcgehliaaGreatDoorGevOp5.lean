/- Each operation of the evaluator does what the model's does (5): indexes, structs, append, copy, '=='. -/
import Derived.Test.YtbecnapcgehliaaGreatDoorGevOp4
namespace Go.Gev
open Go.RowKit

section
variable {P : Program} {cx : Cx} {o : Oper}

theorem snd_cutstr {t : TypeId} {x : Operand} {x' : GX} {lo hi : Option Operand} {lo' hi' : Option GX} (ho : o.op = .slice t x lo hi none) (ht : P.underlying t = some .string)
    (hx : gx cx x = some x') (hlo : gxo cx lo = some lo') (hhi : gxo cx hi = some hi') : Snd P cx o (oCutstr x' lo' hi') :=
  snd_still fun B ρ en h w a v h' E R e0 => by
    have hv := gx_VR E hx
    obtain ⟨e1, rfl⟩ := ret1_some (show ret1 h (cutstr1 en lo' hi' (ev en x')) = _ from e0)
    refine ⟨rfl, ?_⟩
    generalize ev en x' = s at hv e1
    cases s with
    | string s =>
      have hq := hv.string_inv
      simp only [cutstr1] at e1
      cases h2 : bnd en s.size s.size hi' with
      | none => rw [h2] at e1; cases e1
      | some hh =>
        rw [h2] at e1
        simp only [cutstr2] at e1
        cases h3 : bnd en 0 hh lo' with
        | none => rw [h3] at e1; cases e1
        | some l =>
          rw [h3] at e1
          injection e1 with e1
          subst e1
          obtain ⟨m2, q1, _⟩ := bounds_run (P := P) (w := w) (mx := none) (mx' := none) E hlo hhi rfl (Nat.le_refl s.size) (Nat.le_refl s.size) rfl h2 h3 false (.inl rfl)
          refine ⟨.string (s.extract l hh), ?_, .string _⟩
          have hq2 : (Instr.sliceBounds false s.size s.size (lo.map a.eval) (hi.map a.eval) none).run P w = .ok (l, hh, m2) w := q1
          simp [execOp, ho, hq, Instr.sliceAt, Instr.slice, under_run ht, hq2]
    | _ => cases e1

theorem idxA2_some {u len : Nat} {a : Option Addr} {i : Option Nat} {v : Value} (h : idxA2 u len a i = some v) :
    ∃ k b o1, i = some k ∧ k < len ∧ a = some ⟨b, o1, none⟩ ∧ v = .pointer (some ⟨b, o1 + k * u, none⟩) := by
  cases i with
  | none => cases h
  | some k =>
    simp only [idxA2] at h
    cases hb : Nat.blt k len with
    | false => rw [hb] at h; cases h
    | true =>
      rw [hb] at h
      rw [blt_eq] at hb
      cases a with
      | none => cases h
      | some a =>
        obtain ⟨b, o1, sp⟩ := a
        cases sp with
        | some s => cases h
        | none => injection h with h; subst h; exact ⟨k, b, o1, rfl, by simpa using hb, rfl, rfl⟩
theorem snd_idxA {t e : TypeId} {u : Nat} {x i : Operand} {x' i' : GX} (ho : o.op = .indexAddr t x i) (ht : P.underlying t = some (.slice e)) (hu : sizeOfT P e = some u) (hx : gx cx x = some x') (hi : gx cx i = some i') : Snd P cx o (oIdxA u x' i') :=
  snd_still fun B ρ en h w a v h' E R e0 => by
    have hv := gx_VR E hx
    obtain ⟨e1, rfl⟩ := ret1_some (show ret1 h (idxA1 u (natOf (ev en i')) (ev en x')) = _ from e0)
    refine ⟨rfl, ?_⟩
    generalize ev en x' = s at hv e1
    generalize hq : a.eval x = s' at hv
    cases s with
    | slice sa len cap =>
      obtain ⟨k, b, o1, hk, hlt, rfl, rfl⟩ := idxA2_some (show idxA2 u len sa (natOf (ev en i')) = some v from e1)
      obtain ⟨ki, _, hqi⟩ := natOf_VR (gx_VR E hi) hk
      cases hv with
      | slice id off _ _ c1 H g1 g2 g3 g4 g5 =>
        refine ⟨.pointer (some ⟨H.blk, H.off + (o1 + k * u), none⟩), ?_, .ptr b _ H g1⟩
        have hin : (0 : Int) ≤ (k : Int) ∧ (k : Int) < (len : Int) := by omega
        simp [execOp, ho, hq, hqi, Instr.indexAt, asIntOf, under_run ht, hlt, size_run hu, add_block, Nat.add_assoc]
    | _ => cases e1
theorem snd_idxArr {t e : TypeId} {u n : Nat} {x i : Operand} {x' i' : GX} (ho : o.op = .indexAddr t x i) (ht : P.underlying t = some (.array n e)) (hu : sizeOfT P e = some u) (hx : gx cx x = some x') (hi : gx cx i = some i') : Snd P cx o (oIdxArr u n x' i') :=
  snd_still fun B ρ en h w a v h' E R e0 => by
    have hv := gx_VR E hx
    obtain ⟨e1, rfl⟩ := ret1_some (show ret1 h (idxArr1 u n (natOf (ev en i')) (ev en x')) = _ from e0)
    refine ⟨rfl, ?_⟩
    generalize ev en x' = s at hv e1
    generalize hq : a.eval x = s' at hv
    cases s with
    | pointer sa =>
      obtain ⟨k, b, o1, hk, hlt, rfl, rfl⟩ := idxA2_some (show idxA2 u n sa (natOf (ev en i')) = some v from e1)
      obtain ⟨ki, _, hqi⟩ := natOf_VR (gx_VR E hi) hk
      cases hv with
      | ptr id off H g1 =>
        refine ⟨.pointer (some ⟨H.blk, H.off + (o1 + k * u), none⟩), ?_, .ptr b _ H g1⟩
        have hin : (0 : Int) ≤ (k : Int) ∧ (k : Int) < (n : Int) := by omega
        simp [execOp, ho, hq, hqi, Instr.indexAt, Instr.sureAddr, asIntOf, under_run ht, hlt, size_run hu, add_block, Nat.add_assoc]
    | _ => cases e1
theorem nthV_get : ∀ (l : List Value) (j : Nat), nthV l j = l[j]? := by
  intro l
  induction l with
  | nil => intro j; rfl
  | cons u l ih => intro j; cases j with
    | zero => rfl
    | succ j => simpa [nthV] using ih j
theorem nthB_get : ∀ (l : List UInt8) (j : Nat) (v : Value), nthB l j = some v → ∃ b, l[j]? = some b ∧ v = .int .u8 (b.toNat : Int) := by
  intro l
  induction l with
  | nil => intro j v h; cases h
  | cons u l ih => intro j v h; cases j with
    | zero => simp only [nthB, Option.some.injEq] at h; subst h; exact ⟨u, rfl, rfl⟩
    | succ j => obtain ⟨b, h1, h2⟩ := ih j v h; exact ⟨b, by simpa using h1, h2⟩
theorem snd_idxS {t : TypeId} {x i : Operand} {x' i' : GX} (ho : o.op = .index t x i) (ht : P.underlying t = some .string) (hx : gx cx x = some x') (hi : gx cx i = some i') : Snd P cx o (oIdxS x' i') :=
  snd_still fun B ρ en h w a v h' E R e0 => by
    have hv := gx_VR E hx
    obtain ⟨e1, rfl⟩ := ret1_some (show ret1 h (idxS1 (ev en x') (natOf (ev en i'))) = _ from e0)
    refine ⟨rfl, ?_⟩
    generalize ev en x' = s at hv e1
    cases s with
    | string s =>
      have hq := hv.string_inv
      cases hk : natOf (ev en i') with
      | none => rw [hk] at e1; cases e1
      | some k =>
        rw [hk] at e1
        obtain ⟨ki, _, hqi⟩ := natOf_VR (gx_VR E hi) hk
        obtain ⟨b, hb, rfl⟩ := nthB_get _ _ _ (show nthB s.data.toList k = some v from e1)
        refine ⟨_, ?_, .int _ _⟩
        have hg : s[k]? = some b := by
          have hlt : k < s.size := by
            have := (List.getElem?_eq_some_iff.1 hb).1
            simpa using this
          have h3 := (List.getElem?_eq_some_iff.1 hb).2
          rw [getElem?_pos s k hlt]
          congr 1
        simp [execOp, ho, hq, hqi, Instr.index, asIntOf, under_run ht, hg]
    | _ => cases e1
theorem snd_field {t : TypeId} {fs : Array Field} {f : Field} {k : Nat} {x : Operand} {x' : GX} (ho : o.op = .field t x k) (ht : P.underlying t = some (.struct fs)) (hk : fs[k]? = some f) (ha : isAggT P f.type = some false) (hx : gx cx x = some x') : Snd P cx o (oField f.offset x') :=
  snd_still fun B ρ en h w a v h' E R e0 => by
    have hv := gx_VR E hx
    obtain ⟨e1, rfl⟩ := ret1_some (show ret1 h (field1 f.offset (ev en x')) = _ from e0)
    refine ⟨rfl, ?_⟩
    generalize ev en x' = s at hv e1
    cases s with
    | agg cs =>
      obtain ⟨ys, hq, hl⟩ := hv.agg_inv
      simp only [field1, nthV_get] at e1
      have h1 : f.offset < cs.toList.length := (List.getElem?_eq_some_iff.1 e1).1
      have h2 : f.offset < ys.toList.length := by rw [← hl.1]; exact h1
      have hys : ys[f.offset]? = some ys.toList[f.offset] := by simp at h2; simp [h2]
      exact ⟨ys.toList[f.offset], by simp [execOp, ho, hq, Instr.field, under_run ht, hk, part, isAgg_run ha, asAgg, hys], hl.2 _ _ _ e1 (List.getElem?_eq_getElem h2)⟩
    | _ => cases e1
theorem snd_fields {t : TypeId} {fs : Array Field} {f : Field} {k n : Nat} {x : Operand} {x' : GX} (ho : o.op = .field t x k) (ht : P.underlying t = some (.struct fs)) (hk : fs[k]? = some f) (ha : isAggT P f.type = some true) (hn : sizeOfT P f.type = some n) (hx : gx cx x = some x') : Snd P cx o (oFields f.offset n x') :=
  snd_still fun B ρ en h w a v h' E R e0 => by
    have hv := gx_VR E hx
    obtain ⟨e1, rfl⟩ := ret1_some (show ret1 h (fields1 f.offset n (ev en x')) = _ from e0)
    refine ⟨rfl, ?_⟩
    generalize ev en x' = s at hv e1
    cases s with
    | agg cs =>
      obtain ⟨ys, hq, hl⟩ := hv.agg_inv
      simp only [fields1] at e1
      cases hb : Nat.ble (Nat.add f.offset n) cs.toList.length with
      | false => rw [hb] at e1; cases e1
      | true =>
        rw [hb] at e1
        injection e1 with e1
        subst e1
        refine ⟨.agg (ys.extract f.offset (f.offset + n)), by simp [execOp, ho, hq, Instr.field, under_run ht, hk, part, isAgg_run ha, asAgg, size_run hn], ?_⟩
        have : (ys.extract f.offset (f.offset + n)) = ((ys.toList.drop f.offset).take n).toArray := by
          apply Array.ext'
          simp [Array.toList_extract, List.extract_eq_take_drop]
        rw [this]
        exact VR.agg_of ((hl.drop _).take _)
    | _ => cases e1

theorem snd_append {c : Call} {t e : TypeId} {u b : Nat} {s x : Operand} {s' x' : GX} (ho : o.op = .call c) (hc : c.callee = .builtin .append) (ha : c.args = #[s, x]) (hat : c.argTypes = #[t, t])
    (T : AppTo P t o.type e u b) (hs : gx cx s = some s') (hx : gx cx x = some x') : Snd P cx o (oAppend e u b s' x') := fun B ρ en h w a v h' E R hg => by
  obtain ⟨v', w', ρ', h1, h2, h3⟩ := step_append R T (gx_VR E hs) (gx_VR E hx) hg
  refine ⟨v', w', ρ', .inl ?_, h2, h3⟩
  simp [execOp, ho, resolve, hc, ha, hat, invoke, builtin, h1]

theorem snd_copy {c : Call} {t e : TypeId} {u : Nat} {d s : Operand} {d' s' : GX} (ho : o.op = .call c) (hc : c.callee = .builtin .copy) (ha : c.args = #[d, s]) (hat : c.argTypes[0]? = some t)
    (ht : P.underlying t = some (.slice e)) (hu : sizeOfT P e = some u) (hd : gx cx d = some d') (hs : gx cx s = some s') : Snd P cx o (oCopy u d' s') := fun B ρ en h w a v h' E R hg => by
  have hvd := gx_VR E hd
  have hvs := gx_VR E hs
  unfold oCopy at hg
  generalize ev en d' = dv at hvd hg
  generalize ev en s' = sv at hvs hg
  generalize hqd : a.eval d = dv' at hvd
  generalize hqs : a.eval s = sv' at hvs
  cases dv with
  | slice da dn dc => cases sv with
    | slice sa sn sc =>
      simp only [copy0] at hg
      -- both are slices in the model, of the same lengths
      have hdl : ∃ da' dc', dv' = .slice da' dn dc' := by cases hvd <;> exact ⟨_, _, rfl⟩
      have hsl : ∃ sa' sc', sv' = .slice sa' sn sc' := by cases hvs <;> exact ⟨_, _, rfl⟩
      obtain ⟨da', dc', rfl⟩ := hdl
      obtain ⟨sa', sc', rfl⟩ := hsl
      have hmin : minN sn dn = Nat.min sn dn := minN_eq _ _
      rw [hmin] at hg
      have hrun : ∀ (ys : List Value) (w2 : World), (Builtin.firstCells u (Nat.min sn dn) (.slice sa' sn sc')).run P w = .ok ys.toArray w →
          (match da' with | some a2 => (storeCells a2 ys 0).run P w = .ok () w2 | none => w2 = w) → (execOp a.eval o).run P w = .ok (.value (goInt (Nat.min sn dn : Nat))) w2 := fun ys w2 g1 g2 => by
        cases da' with
        | none =>
          subst g2
          simp [execOp, ho, resolve, hc, ha, invoke, builtin, Builtin.copy_, hat, under_run ht, hqd, hqs, Builtin.lenOf, size_run hu, g1]
        | some a2 =>
          simp [execOp, ho, resolve, hc, ha, invoke, builtin, Builtin.copy_, hat, under_run ht, hqd, hqs, Builtin.lenOf, size_run hu, g1, g2]
      cases hm : Nat.min sn dn with
      | zero =>
        rw [hm] at hg hrun
        simp only [copy1, Option.some.injEq, Prod.mk.injEq] at hg
        obtain ⟨rfl, rfl⟩ := hg
        refine ⟨.int .i64 ((0 : Nat) : Int), w, ρ, .inl (hrun [] w ?_ ?_), .int _ _, St.refl R⟩
        · cases sa' <;> simp [Builtin.firstCells, loadCells, loadCellsFrom]
        · cases da' <;> simp [storeCells]
      | succ n =>
        rw [hm] at hg hrun
        simp only [copy1] at hg
        cases hr : rowOf h u (Nat.succ n) sa with
        | none => rw [hr] at hg; cases hg
        | some vs =>
          rw [hr] at hg
          simp only [copy2] at hg
          cases da with
          | none => cases hg
          | some da =>
            simp only at hg
            obtain ⟨did, doff, dsp⟩ := da
            cases dsp with
            | some q => cases hg
            | none =>
              simp only at hg
              cases hst : storeB h did doff vs (h.hp.get did) with
              | none => rw [hst] at hg; cases hg
              | some h2 =>
                rw [hst] at hg
                simp only [copy3, Option.some.injEq, Prod.mk.injEq] at hg
                obtain ⟨rfl, rfl⟩ := hg
                -- the source's cells
                cases sa with
                | none => cases hr
                | some sa =>
                  obtain ⟨sid, soff, ssp⟩ := sa
                  cases ssp with
                  | some q => cases hr
                  | none =>
                    have hr2 : blkCells (Nat.mul (Nat.succ n) u) soff (h.hp.get sid) = some vs := hr
                    obtain ⟨H, ys, g1, g2, g3, g4⟩ := R.cells hr2
                    cases hvs with
                    | slice _ _ _ _ c1 H1 e1 e2 e3 e4 e5 =>
                      rw [e1] at g1
                      injection g1 with g1
                      subst g1
                      obtain ⟨H2, w2, r1, r2, r3⟩ := step_store P R hst g2
                      cases hvd with
                      | slice _ _ _ _ c3 H3 f1 f2 f3 f4 f5 =>
                        rw [f1] at r1
                        injection r1 with r1
                        subst r1
                        refine ⟨.int .i64 ((n + 1 : Nat) : Int), w2, ρ, .inl (hrun ys w2 ?_ r2), .int _ _, r3⟩
                        have hl := run_loadCells_list (P := P) (w := w) _ ys g4
                        have : ys.length = (n + 1) * u := by rw [← g2.1]; exact g3
                        rw [this] at hl
                        simpa [Builtin.firstCells] using hl
    | _ => cases hg
  | _ => cases hg
end
end Go.Gev

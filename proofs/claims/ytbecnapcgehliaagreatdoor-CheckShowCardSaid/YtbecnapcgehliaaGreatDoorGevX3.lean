/- More operations of the evaluator do what the model's do: append of a string; what the model stands in for; all together. -/
import Derived.Test.YtbecnapcgehliaaGreatDoorGevX2
import Derived.Lib.AppendStr
import Derived.Laws.Externs
import Derived.KernelRfl
import Derived.Lib.Bytealg
import Derived.Room.MakeNoZero
namespace Go.Gev
open Go.RowKit

section
variable {P : Program} {cx : Cx} {o : Oper}

theorem strCells_byteVs (s : ByteArray) : Lib.strCells s = byteVs s.data.toList := by rw [byteVs_eq]; rfl
theorem runApp_str {w : World} {t ti ty e : TypeId} {i : TypeInfo} {z : Value} (ht : P.underlying t = some (.slice e)) (hti : P.underlying ti = some .string) (hi : P.info? e = some i) (hz : i.zero = some z)
    (hs : i.size = 1) (s : ByteArray) : RunApp P w e i z #[t, ti] ty (.string s) s.size (Lib.strCells s) := by
  refine ⟨fun hm a n c hn => ?_, fun hm h64 h48 => ?_, fun g n c cur hg hroom hfit => ?_, fun b n c olds ho1 ho2 hc h64 hfit hm0 => ?_⟩
  · have hf : (Builtin.firstCells i.size 0 (.string s)).run P w = .ok #[] w := by
      have := Lib.run_firstCells_string (P := P) w i.size s
      rw [hm] at this
      rw [this]
      have hnil : Lib.strCells s = [] := List.eq_nil_of_length_eq_zero (by rw [Lib.strCells_length]; exact hm)
      rw [hnil]
    cases a <;> simp [Builtin.append_, run_underlying ht, run_underlying hti, sizeOf, typeInfo, hi, Builtin.lenOf, hm, hn, hf, storeCells]
  · have := run_append_nil_string (P := P) w t ti ty e i z ht hti hi hz s hm h64 h48
    rw [this]
    congr 4
    unfold Lib.strCells
    apply Array.ext'
    simp
  · have := Lib.run_append_room_string (P := P) w t ti ty e i ht hti hi hs g n c cur hg s hroom (by rw [hs, Nat.mul_one, Lib.strCells_length] at hfit; exact hfit)
    rw [hs, Nat.mul_one, Lib.strCells_length]
    exact this
  · exact Lib.run_append_grow_string (P := P) w t ti ty e i z ht hti hi hz b n c olds ho1 ho2 s hc h64 hfit

theorem allOne_byteVs (l : List UInt8) : allOne (byteVs l) = true := by
  induction l with
  | nil => rfl
  | cons b l ih => show (match true with | true => allOne (byteVs l) | false => false) = true; exact ih
theorem snd_appendS {c : Call} {s x : Operand} {s' x' : GX} {t ti e : TypeId} {z : List Value} (ho : o.op = .call c) (hc : c.callee = .builtin .append) (ha : c.args = #[s, x]) (hat : c.argTypes = #[t, ti]) (ht : P.underlying t = some (.slice e)) (hti : P.underlying ti = some .string)
    (hu : sizeOfT P e = some 1) (hb : bytesOfT P e = some 1) (hz : zeroOf P e = some z) (hs : gx cx s = some s') (hx : gx cx x = some x') : Snd P cx o (oAppendS e 1 s' x') := by
  intro B ρ en h w a v h' E R eg
  have hsv := gx_VR E hs
  have hv := gx_VR E hx
  simp only [oAppendS] at eg
  generalize hqs : a.eval s = us at hsv
  generalize hq : a.eval x = u' at hv
  generalize ev en x' = u at hv eg
  generalize ev en s' = sv at hsv eg
  cases u with
  | string t0 =>
    have := hv.string_inv
    subst this
    simp only [app1, allOne_byteVs] at eg
    unfold sizeOfT at hu
    unfold bytesOfT at hb
    unfold zeroOf at hz
    cases hi : P.info? e with
    | none => rw [hi] at hu; cases hu
    | some i =>
      rw [hi] at hu hb hz
      injection hu with hu
      injection hb with hb
      cases hz0 : i.zero with
      | none => simp only [hz0] at hz; cases hz
      | some zv =>
        simp only [hz0] at hz
        have hzc : zv.cells.size = i.size := by
          cases hok : okCL zv.cells.toList with
          | false => rw [hok] at hz; cases hz
          | true =>
            rw [hok] at hz
            cases hl : Nat.beq zv.cells.toList.length i.size with
            | false => simp only [hl] at hz; cases hz
            | true => have := Nat.eq_of_beq_eq_true hl; simpa using this
        have hlen : t0.data.toList.length = t0.size := Array.length_toList
        have A := runApp_str (P := P) (w := w) (ty := o.type) ht hti hi hz0 hu t0
        have key := step_app2 (P := P) (e := e) (ty := o.type) (args := #[t, ti]) (m := t0.size) (s := sv) (s' := us) (x' := .string t0) (i := i) (z := zv) (news := byteVs t0.data.toList) (ys := Lib.strCells t0) R hzc (by omega) (by omega) A hsv
          (by rw [strCells_byteVs, byteVs_eq]; exact VL.bytes_refl _) (by rw [← strCells_byteVs, Lib.strCells_length, hu, Nat.mul_one]) (v := v) (h' := h') (by rw [hu, hb, ← hlen]; exact eg)
        obtain ⟨v', w', ρ', h1, h2, h3⟩ := key
        refine ⟨v', w', ρ', .inl ?_, h2, h3⟩
        simp [execOp, ho, resolve, hc, ha, hat, invoke, builtin, hq, hqs, h1]
  | _ => cases eg

/-! ### what the model stands in for -/
theorem standIn_some {f : FuncId} {name : String} (h : standIn P f name = true) : ∃ fn, P.funcs[f]? = some fn ∧ fn.body.isNone = true ∧ fn.name = name ∧ fn.origin = "" := by
  unfold standIn at h
  cases hf : P.funcs[f]? with
  | none => rw [hf] at h; cases h
  | some fn =>
    rw [hf] at h
    simp only [Bool.and_eq_true, beq_iff_eq] at h
    exact ⟨fn, rfl, h.1.1, h.1.2, h.2⟩
theorem noEscape_rows (fn : Func) (hn : fn.name = "internal/abi.NoEscape") (ho : fn.origin = "") : Extern.findNext fn = none ∧ Extern.find fn = some Extern.AbiNoEscape.same := by
  obtain ⟨nm, og, ta, pa, rt, nf, nt, rs, bd, nr, ou, fi, el, ln, me, tn⟩ := fn
  have hn : nm = "internal/abi.NoEscape" := hn
  have ho : og = "" := ho
  subst hn; subst ho
  exact ⟨by kernel_rfl, by kernel_rfl⟩
theorem indexByte_rows (fn : Func) (hn : fn.name = "internal/bytealg.IndexByteString") (ho : fn.origin = "") : Extern.findNext fn = none ∧ Extern.find fn = some Extern.BytealgIndexByte.indexByte := by
  obtain ⟨nm, og, ta, pa, rt, nf, nt, rs, bd, nr, ou, fi, el, ln, me, tn⟩ := fn
  have hn : nm = "internal/bytealg.IndexByteString" := hn
  have ho : og = "" := ho
  subst hn; subst ho
  exact ⟨by kernel_rfl, by kernel_rfl⟩
theorem snd_noEscape {c : Call} {f : FuncId} {x : Operand} {x' : GX} (ho : o.op = .call c) (hc : c.callee = .value (.func f)) (ha : c.args = #[x]) (hf : standIn P f "internal/abi.NoEscape" = true) (hx : gx cx x = some x') : Snd P cx o (oMv x') :=
  snd_still fun B ρ en h w a v h' E R eg => by
    simp only [oMv, Option.some.injEq, Prod.mk.injEq] at eg
    obtain ⟨rfl, rfl⟩ := eg
    refine ⟨rfl, a.eval x, ?_, gx_VR E hx⟩
    obtain ⟨fn, h1, h2, h3, h4⟩ := standIn_some hf
    obtain ⟨r1, r2⟩ := noEscape_rows fn h3 h4
    have hrun := run_callFunc_extern (P := P) h1 (by rw [h3]; decide) h2 r1 r2 #[a.eval x] w
    have he : (execOp a.eval o).run P w = (callFunc f #[a.eval x]).run P w := by
      simp [execOp, ho, resolve, hc, ha, Act.eval, Deferred.ofValue, invoke]
    rw [he, hrun]
    rfl
theorem find?_congr' {α : Type} {p q : α → Bool} : ∀ {l : List α}, (∀ x ∈ l, p x = q x) → l.find? p = l.find? q := by
  intro l
  induction l with
  | nil => intro _; rfl
  | cons a l ih =>
    intro h
    simp only [List.find?_cons]
    rw [h a List.mem_cons_self, ih fun x hx => h x (List.mem_cons_of_mem _ hx)]
theorem findB_range (c : UInt8) : ∀ (l : List UInt8) (k : Nat), (List.range' k l.length).find? (fun j => (l[j - k]?).getD 0 == c) = findB c.toNat l k := by
  intro l
  induction l with
  | nil => intro k; rfl
  | cons b l ih =>
    intro k
    simp only [List.length_cons, List.range'_succ, List.find?_cons, Nat.sub_self, List.getElem?_cons_zero, Option.getD_some, findB]
    have hb : (b == c) = Nat.beq b.toNat c.toNat := by
      rw [Bool.eq_iff_iff, beq_iff_eq]
      constructor
      · rintro rfl; exact Nat.beq_refl _
      · intro h; exact UInt8.toNat_inj.1 (Nat.eq_of_beq_eq_true h)
    rw [hb]
    cases Nat.beq b.toNat c.toNat with
    | true => rfl
    | false =>
      simp only
      rw [← ih (k + 1)]
      refine find?_congr' fun x hx => ?_
      have hx2 := (List.mem_range'_1.1 hx).1
      obtain ⟨d, rfl⟩ : ∃ d, x = k + 1 + d := ⟨x - (k + 1), by omega⟩
      rw [show k + 1 + d - k = d + 1 from by omega, show k + 1 + d - (k + 1) = d from by omega, List.getElem?_cons_succ]
theorem snd_idxB {c : Call} {f : FuncId} {x y : Operand} {x' y' : GX} (ho : o.op = .call c) (hc : c.callee = .value (.func f)) (ha : c.args = #[x, y]) (hf : standIn P f "internal/bytealg.IndexByteString" = true) (hx : gx cx x = some x') (hy : gx cx y = some y') : Snd P cx o (oIdxB x' y') :=
  snd_still fun B ρ en h w a v h' E R eg => by
    have hv := gx_VR E hx
    have hw := gx_VR E hy
    obtain ⟨e1, rfl⟩ := ret1_some (show ret1 h (idxB1 (ev en x') (ev en y')) = _ from eg)
    refine ⟨rfl, v, ?_, ?_⟩
    · generalize hqx : a.eval x = ux at hv
      generalize hqy : a.eval y = uy at hw
      generalize ev en x' = u at hv e1
      generalize ev en y' = t at hw e1
      cases u <;> try cases e1
      rename_i s
      cases t <;> try cases e1
      rename_i k n
      cases k <;> cases n <;> simp only [idxB1] at e1 <;> try cases e1
      rename_i m
      cases hm : Nat.ble m 255 with
      | false => rw [hm] at e1; cases e1
      | true =>
        rw [hm] at e1
        simp only [Option.some.injEq] at e1
        subst e1
        have hle := Nat.le_of_ble_eq_true hm
        have hs := hv.string_inv
        have hi := hw.int_inv
        subst hs; subst hi
        obtain ⟨fn, h1, h2, h3, h4⟩ := standIn_some hf
        obtain ⟨r1, r2⟩ := indexByte_rows fn h3 h4
        have hrun := run_callFunc_extern (P := P) h1 (by rw [h3]; decide) h2 r1 r2 #[.string s, .int .u8 (.ofNat m)] w
        have he : (execOp a.eval o).run P w = (callFunc f #[a.eval x, a.eval y]).run P w := by
          simp [execOp, ho, resolve, hc, ha, Act.eval, Deferred.ofValue, invoke]
        rw [he, hqx, hqy, hrun]
        have hto : (UInt8.ofNat m).toNat = m := by simp; omega
        have hfind : (List.range s.size).find? (fun i => s[i]! == UInt8.ofNat m) = findB m s.data.toList 0 := by
          have := findB_range (UInt8.ofNat m) s.data.toList 0
          rw [hto, ← List.range_eq_range', Array.length_toList] at this
          rw [← this]
          refine find?_congr' fun i hi => ?_
          have hlt : i < s.size := List.mem_range.1 hi
          have hlt' : i < s.data.size := hlt
          rw [getElem!_pos s i hlt, Nat.sub_zero, Array.getElem?_toList, Array.getElem?_eq_getElem hlt']
          rfl
        have hidx : (Extern.BytealgIndexByte.indexByte #[.string s, .int .u8 (.ofNat m)]).run P w = .ok (findV (findB m s.data.toList 0)) w := by
          have hdef : Extern.BytealgIndexByte.indexByte #[.string s, .int .u8 (.ofNat m)] = (do
              let b ← Extern.Bytes.bytesOf (.string s)
              let c ← Extern.Bytes.asByte (.int .u8 (.ofNat m))
              match (List.range b.size).find? fun i => b[i]! == c with
              | some i => pure (goInt i)
              | none => pure (goInt (-1))) := rfl
          rw [hdef]
          have hc2 : (((Int.ofNat m).toNat).toUInt8) = UInt8.ofNat m := rfl
          simp only [Extern.Bytes.bytesOf, Extern.Bytes.asByte, Sem.run_bind, Sem.run_pure, Result.andThen_ok, hc2, hfind]
          cases findB m s.data.toList 0 with
          | none => rfl
          | some i => rfl
        rw [hidx]
        rfl
    · generalize ev en x' = u at e1
      generalize ev en y' = t at e1
      cases u <;> try cases e1
      cases t <;> try cases e1
      rename_i k n
      cases k <;> cases n <;> simp only [idxB1] at e1 <;> try cases e1
      rename_i m
      cases hm : Nat.ble m 255 with
      | false => rw [hm] at e1; cases e1
      | true =>
        rw [hm] at e1
        simp only [Option.some.injEq] at e1
        subst e1
        cases findB m _ 0 <;> exact .int _ _

theorem makeNoZero_rows (fn : Func) (hn : fn.name = "internal/bytealg.MakeNoZero") (ho : fn.origin = "") : Extern.findNext fn = none ∧ Extern.find fn = some (Extern.BytealgMakeNoZero.makeNoZero fn.params fn.resultTypes) := by
  obtain ⟨nm, og, ta, pa, rt, nf, nt, rs, bd, nr, ou, fi, el, ln, me, tn⟩ := fn
  have hn : nm = "internal/bytealg.MakeNoZero" := hn
  have ho : og = "" := ho
  subst hn; subst ho
  exact ⟨by kernel_rfl, by kernel_rfl⟩
theorem countString_rows (fn : Func) (hn : fn.name = "internal/bytealg.CountString") (ho : fn.origin = "") : Extern.findNext fn = none ∧ Extern.find fn = some Extern.BytealgCount.count := by
  obtain ⟨nm, og, ta, pa, rt, nf, nt, rs, bd, nr, ou, fi, el, ln, me, tn⟩ := fn
  have hn : nm = "internal/bytealg.CountString" := hn
  have ho : og = "" := ho
  subst hn; subst ho
  exact ⟨by kernel_rfl, by kernel_rfl⟩
theorem mkNZof_some {f : FuncId} {fn : Func} {e : TypeId} (hf : P.funcs[f]? = some fn) (h : mkNZof P f = some e) : ∃ t, fn.resultTypes = #[t] ∧ P.underlying t = some (.slice e) := by
  unfold mkNZof at h
  rw [hf] at h
  simp only at h
  split at h
  · rename_i t ht
    split at h
    · rename_i e' he
      injection h with h
      subst h
      refine ⟨t, ?_, he⟩
      apply Array.ext'
      simpa using ht
    · cases h
  · cases h
theorem VL.unknown {ρ : Ren} : ∀ {xs ys : List Value}, xs.length = ys.length → (∀ x ∈ xs, x = dunno) → VL ρ xs ys
  | [], [], _, _ => VL.nil
  | x :: xs, y :: ys, h, hx => VL.cons (by rw [hx x List.mem_cons_self]; exact .dunno y) (VL.unknown (by simpa using h) fun z hz => hx z (List.mem_cons_of_mem _ hz))
  | [], _ :: _, h, _ => by simp at h
  | _ :: _, [], h, _ => by simp at h
theorem rep_dunno : ∀ (n : Nat), ∀ x ∈ rep [dunno] n, x = dunno := by
  intro n
  induction n with
  | zero => intro x hx; cases hx
  | succ n ih =>
    intro x hx
    rcases List.mem_cons.1 (show x ∈ dunno :: rep [dunno] n from hx) with h | h
    · exact h
    · exact ih x h
theorem snd_mkNZ {c : Call} {f : FuncId} {x : Operand} {x' : GX} {e : TypeId} (ho : o.op = .call c) (hc : c.callee = .value (.func f)) (ha : c.args = #[x]) (hf : standIn P f "internal/bytealg.MakeNoZero" = true) (he : mkNZof P f = some e) (hx : gx cx x = some x') : Snd P cx o (oMkNZ e x') := by
  intro B ρ en h w a v h' E R e1
  have hv := gx_VR E hx
  simp only [oMkNZ] at e1
  generalize hqx : a.eval x = ux at hv
  generalize ev en x' = u at hv e1
  cases hn : nat64 u with
  | none => rw [hn] at e1; cases e1
  | some n =>
    rw [hn] at e1
    simp only [mkNZ] at e1
    cases hb : Nat.ble n 70368744177664 with
    | false => rw [hb] at e1; cases e1
    | true =>
      rw [hb] at e1
      simp only [Option.some.injEq, Prod.mk.injEq] at e1
      obtain ⟨rfl, rfl⟩ := e1
      have hle := Nat.le_of_ble_eq_true hb
      have hu : u = .int .i64 (.ofNat n) := by
        cases u <;> try (simp [nat64] at hn; done)
        rename_i k m
        cases k <;> cases m <;> simp only [nat64, Option.some.injEq] at hn <;> first | (subst hn; rfl) | cases hn
      subst hu
      have hq := hv.int_inv
      subst hq
      obtain ⟨fn, h1, h2, h3, h4⟩ := standIn_some hf
      obtain ⟨r1, r2⟩ := makeNoZero_rows fn h3 h4
      obtain ⟨t, ht1, ht2⟩ := mkNZof_some h1 he
      have hrun := run_callFunc_extern (P := P) h1 (by rw [h3]; decide) h2 r1 r2 #[.int .i64 (.ofNat n)] w
      obtain ⟨cs, q1, q2, q3, q4⟩ := Lib.run_makeNoZero_cap (P := P) w fn.params t e ht2 n (by omega)
      have he2 : (execOp a.eval o).run P w = (callFunc f #[a.eval x]).run P w := by
        simp [execOp, ho, resolve, hc, ha, Act.eval, Deferred.ofValue, invoke]
      have hlen : (rep [dunno] n).length = n := by rw [rep_length]; simp
      have htk : (cs.toList.take n).length = n := by rw [List.length_take]; simp; omega
      refine ⟨_, _, _, .inl (by rw [he2, hqx, hrun, ht1]; exact congrArg (fun r => Result.andThen r _) q1), ?_, step_new (w := w.drew.drew) R rfl rfl rfl rfl e 1 (rep [dunno] n) cs (cs.toList.take n) (VL.unknown (by rw [hlen, htk]) (rep_dunno n)) (by rw [htk])⟩
      exact .slice h.nx 0 n n cs.size _ (Ren.add_same _ _ _) (Nat.le_refl _) q2 (q3 (Nat.le_trans hle (by decide))) (.inr (by simp))

theorem countB_eq (c : UInt8) : ∀ (l : List UInt8) (n : Nat), countB c.toNat l n = n + Lib.countByte l c := by
  intro l
  induction l with
  | nil => intro n; rfl
  | cons b l ih =>
    intro n
    simp only [countB, Lib.countByte]
    have hb : (b == c) = Nat.beq b.toNat c.toNat := by
      rw [Bool.eq_iff_iff, beq_iff_eq]
      constructor
      · rintro rfl; exact Nat.beq_refl _
      · intro h; exact UInt8.toNat_inj.1 (Nat.eq_of_beq_eq_true h)
    cases hq : Nat.beq b.toNat c.toNat with
    | true => rw [hq] at hb; simp only [ih]; simp_all [Lib.countByte]; omega
    | false => rw [hq] at hb; simp only [ih]; simp_all [Lib.countByte]
theorem snd_cntB {c : Call} {f : FuncId} {x y : Operand} {x' y' : GX} (ho : o.op = .call c) (hc : c.callee = .value (.func f)) (ha : c.args = #[x, y]) (hf : standIn P f "internal/bytealg.CountString" = true) (hx : gx cx x = some x') (hy : gx cx y = some y') : Snd P cx o (oCntB x' y') :=
  snd_still fun B ρ en h w a v h' E R eg => by
    have hv := gx_VR E hx
    have hw := gx_VR E hy
    obtain ⟨e1, rfl⟩ := ret1_some (show ret1 h (cntB1 (ev en x') (ev en y')) = _ from eg)
    refine ⟨rfl, v, ?_⟩
    generalize hqx : a.eval x = ux at hv
    generalize hqy : a.eval y = uy at hw
    generalize ev en x' = u at hv e1
    generalize ev en y' = t at hw e1
    cases u <;> try cases e1
    rename_i s
    cases t <;> try cases e1
    rename_i k n
    cases k <;> cases n <;> simp only [cntB1] at e1 <;> try cases e1
    rename_i m
    cases hm : Nat.ble m 255 with
    | false => rw [hm] at e1; cases e1
    | true =>
      rw [hm] at e1
      simp only [Option.some.injEq] at e1
      subst e1
      have hle := Nat.le_of_ble_eq_true hm
      have hs := hv.string_inv
      have hi := hw.int_inv
      subst hs; subst hi
      refine ⟨?_, .int _ _⟩
      obtain ⟨fn, h1, h2, h3, h4⟩ := standIn_some hf
      obtain ⟨r1, r2⟩ := countString_rows fn h3 h4
      have hrun := run_callFunc_extern (P := P) h1 (by rw [h3]; decide) h2 r1 r2 #[.string s, .int .u8 (.ofNat m)] w
      have he : (execOp a.eval o).run P w = (callFunc f #[a.eval x, a.eval y]).run P w := by
        simp [execOp, ho, resolve, hc, ha, Act.eval, Deferred.ofValue, invoke]
      have hto : (UInt8.ofNat m).toNat = m := by simp; omega
      have hcb := countB_eq (UInt8.ofNat m) s.data.toList 0
      rw [hto, Nat.zero_add] at hcb
      rw [he, hqx, hqy, hrun, Lib.run_countString, hcb]
      rfl

end
end Go.Gev

/- Each operation of the evaluator does what the model's does (3): shifts, strings, '==', conversions, functions, slices. -/
import Derived.Test.YtbecnapcgehliaaGreatDoorGevOp2
namespace Go.Gev
open Go.RowKit

section
variable {P : Program} {cx : Cx} {o : Oper}

theorem snd_sh2 {op : BinOp} {t yt : TypeId} {x y : Operand} {x' y' : GX} (hop : op = .shl ∨ op = .shr) (ho : o.op = .binOp op t x y yt) (hx : gx cx x = some x') (hy : gx cx y = some y') : Snd P cx o (oV2 (sh2 op) x' y') :=
  snd_bin ho hx hy fun ρ w u u2 v v2 r hu hu2 e => by
    cases u with
    | int k a =>
      cases u2 with
      | int k' b =>
        obtain rfl := hu.int_inv
        obtain rfl := hu2.int_inv
        have hg : eqGuard op t x y (.int k a) (.int k' b) = pure () := by cases op <;> rfl
        rw [hg]
        simp only [Sem.run_bind, Sem.run_pure, Result.andThen_ok]
        replace e : shI op k a b = some r := e
        cases b with
        | negSucc b => rcases hop with rfl | rfl <;> cases e
        | ofNat n =>
          have hn : ¬ ((Int.ofNat n) < 0) := by simp
          have hmin : minN n k.bits = min n k.bits := minN_eq _ _
          rcases hop with rfl | rfl
          · simp only [shI, Option.some.injEq] at e
            subst e
            refine ⟨_, by rw [binOp_shl]; simp only [Op.shift, if_neg hn]; rfl, ?_⟩
            rw [wrapF_eq, hmin]
            have : (Int.mul a (Int.ofNat (Nat.pow 2 (min n k.bits)))) = a * 2 ^ min (Int.ofNat n).toNat k.bits := by
              show a * ((2 ^ (min n k.bits) : Nat) : Int) = a * 2 ^ (min n k.bits)
              rw [Int.natCast_pow]; rfl
            rw [this]
            exact .int _ _
          · have hp : (Int.ofNat (Nat.pow 2 (min n k.bits))) = 2 ^ min (Int.ofNat n).toNat k.bits := by
              show ((2 ^ (min n k.bits) : Nat) : Int) = 2 ^ (min n k.bits)
              rw [Int.natCast_pow]; rfl
            cases a with
            | ofNat m =>
              simp only [shI, Option.some.injEq] at e
              subst e
              refine ⟨_, by rw [binOp_shr]; simp only [Op.shift, if_neg hn]; rfl, ?_⟩
              rw [hmin, ← hp]
              have : (Int.ofNat m).fdiv (Int.ofNat (Nat.pow 2 (min n k.bits))) = Int.ofNat (Nat.div m (Nat.pow 2 (min n k.bits))) := by
                show Int.fdiv (m : Int) ((2 ^ (min n k.bits) : Nat) : Int) = ((m / 2 ^ (min n k.bits) : Nat) : Int)
                rw [Int.fdiv_eq_ediv_of_nonneg _ (Int.natCast_nonneg _)]; rfl
              rw [this]
              exact .int _ _
            | negSucc m =>
              simp only [shI, Option.some.injEq] at e
              subst e
              refine ⟨_, by rw [binOp_shr]; simp only [Op.shift, if_neg hn]; rfl, ?_⟩
              rw [hmin, ← hp]
              exact .int _ _
      | _ => cases e
    | _ => cases e

theorem eqL_eq : ∀ (a b : List UInt8), eqL a b = (a == b) := by
  intro a
  induction a with
  | nil => intro b; cases b <;> rfl
  | cons x a ih =>
    intro b
    cases b with
    | nil => rfl
    | cons y b =>
      simp only [eqL]
      by_cases h : x = y
      · subst h; rw [beq_iff.2 rfl]; simp [ih]
      · rw [beq_false.2 (fun e => h (UInt8.toNat_inj.1 e))]; simp [h]
theorem blt_eq (a b : Nat) : Nat.blt a b = decide (a < b) := by
  unfold Nat.blt; rw [ble_eq]; rfl
theorem ltL_eq : ∀ (a b : List UInt8), ltL a b = Op.bytesLess a b := by
  intro a
  induction a with
  | nil => intro b; cases b <;> rfl
  | cons x a ih =>
    intro b
    cases b with
    | nil => rfl
    | cons y b =>
      simp only [ltL, Op.bytesLess]
      rw [blt_eq]
      by_cases h : x < y
      · have : x.toNat < y.toNat := UInt8.lt_iff_toNat_lt.1 h
        simp [h, this]
      · have h1 : ¬ x.toNat < y.toNat := fun e => h (UInt8.lt_iff_toNat_lt.2 e)
        by_cases h2 : x = y
        · subst h2; rw [beq_iff.2 rfl]; simp [h, ih]
        · rw [beq_false.2 (fun e => h2 (UInt8.toNat_inj.1 e))]; simp [h, h1, h2]
theorem toList_data (a : ByteArray) : a.toList = a.data.toList := ByteArray.toList_eq a
theorem snd_s2 {op : BinOp} {t yt : TypeId} {x y : Operand} {x' y' : GX} (ho : o.op = .binOp op t x y yt) (hx : gx cx x = some x') (hy : gx cx y = some y') : Snd P cx o (oV2 (s2 op) x' y') :=
  snd_bin ho hx hy fun ρ w u u2 v v2 r hu hu2 e => by
    cases u with
    | string a => cases u2 with
      | string b =>
        obtain rfl := hu.string_inv
        obtain rfl := hu2.string_inv
        have hg : eqGuard op t x y (.string a) (.string b) = pure () := by cases op <;> rfl
        rw [hg]
        simp only [Sem.run_bind, Sem.run_pure, Result.andThen_ok]
        replace e : binS op a b = some r := e
        have hb : binOp op t (.string a) (.string b) = Op.stringOp op a b := by cases op <;> rfl
        rw [hb]
        cases op with
        | add =>
          simp only [binS] at e
          cases hl : Nat.ble (Nat.add a.size b.size) 9223372036854775807 with
          | false => rw [hl] at e; cases e
          | true =>
            rw [hl] at e
            injection e with e
            subst e
            have := Nat.le_of_ble_eq_true hl
            have hn : ¬ (((a.size + b.size : Nat) : Int) > IntKind.i64.max) := by
              rw [IntKind.max_i64]
              have h2 : a.size + b.size ≤ 9223372036854775807 := this
              omega
            exact ⟨_, by simp only [Op.stringOp, if_neg hn]; rfl, .string _⟩
        | eql => simp only [binS, Option.some.injEq] at e; subst e; exact ⟨_, by simp only [Op.stringOp]; rfl, by rw [eqL_eq, ← toList_data, ← toList_data]; exact .bool _⟩
        | neq =>
          simp only [binS, Option.some.injEq] at e; subst e
          refine ⟨_, by simp only [Op.stringOp]; rfl, ?_⟩
          rw [eqL_eq, ← toList_data, ← toList_data]
          have : notB (a.toList == b.toList) = !(a.toList == b.toList) := by cases (a.toList == b.toList) <;> rfl
          rw [this]; exact .bool _
        | lss => simp only [binS, Option.some.injEq] at e; subst e; exact ⟨_, by simp only [Op.stringOp]; rfl, by rw [ltL_eq, ← toList_data, ← toList_data]; exact .bool _⟩
        | leq =>
          simp only [binS, Option.some.injEq] at e; subst e
          refine ⟨_, by simp only [Op.stringOp]; rfl, ?_⟩
          rw [eqL_eq, ltL_eq, ← toList_data, ← toList_data]
          have : orB (Op.bytesLess a.toList b.toList) (a.toList == b.toList) = (Op.bytesLess a.toList b.toList || a.toList == b.toList) := by
            cases Op.bytesLess a.toList b.toList <;> rfl
          rw [this]; exact .bool _
        | gtr =>
          simp only [binS, Option.some.injEq] at e; subst e
          refine ⟨_, by simp only [Op.stringOp]; rfl, ?_⟩
          rw [eqL_eq, ltL_eq, ← toList_data, ← toList_data]
          have : notB (orB (Op.bytesLess a.toList b.toList) (a.toList == b.toList)) = !(Op.bytesLess a.toList b.toList || a.toList == b.toList) := by
            cases Op.bytesLess a.toList b.toList <;> cases (a.toList == b.toList) <;> rfl
          rw [this]; exact .bool _
        | geq =>
          simp only [binS, Option.some.injEq] at e; subst e
          refine ⟨_, by simp only [Op.stringOp]; rfl, ?_⟩
          rw [ltL_eq, ← toList_data, ← toList_data]
          have : notB (Op.bytesLess a.toList b.toList) = !(Op.bytesLess a.toList b.toList) := by cases Op.bytesLess a.toList b.toList <;> rfl
          rw [this]; exact .bool _
        | _ => cases e
      | _ => cases e
    | _ => cases e

theorem snd_un {op : UnOp} {t : TypeId} {x : Operand} {x' : GX} (ho : o.op = .unOp op t x) (hx : gx cx x = some x') : Snd P cx o (oUn op x') :=
  snd_still fun B ρ en h w a v h' E R e => by
    have hv := gx_VR E hx
    obtain ⟨e1, rfl⟩ := ret1_some (show ret1 h (un op (ev en x')) = _ from e)
    refine ⟨rfl, ?_⟩
    generalize ev en x' = u at hv e1
    cases op with
    | neg => cases u with
      | int k n =>
        have hq := hv.int_inv
        simp only [un, Option.some.injEq] at e1; subst e1
        refine ⟨_, by simp only [execOp, ho, hq, Op.unary, Op.intArith, Sem.run_bind, Sem.run_pure, Result.andThen_ok]; rfl, ?_⟩
        rw [wrapF_eq]; exact .int _ _
      | _ => cases e1
    | not => cases u with
      | bool b =>
        have hq := hv.bool_inv
        simp only [un, Option.some.injEq] at e1; subst e1
        refine ⟨.bool !b, by simp only [execOp, ho, hq, Op.unary, Sem.run_bind, Sem.run_pure, Result.andThen_ok], ?_⟩
        cases b <;> exact .bool _
      | _ => cases e1
    | xor => cases u with
      | int k n => cases k with
        | u64 => cases n with
          | ofNat n =>
            have hq := hv.int_inv
            simp only [un, Option.some.injEq] at e1; subst e1
            refine ⟨_, by simp only [execOp, ho, hq, Op.unary, Op.intBits, Sem.run_bind, Sem.run_pure, Result.andThen_ok]; rfl, ?_⟩
            rw [wrapF_eq]
            simp only [BitVec.toNat_xor, bits_nat]
            exact .int _ _
          | negSucc n => cases e1
        | _ => cases e1
      | _ => cases e1
    | plus => cases u <;> cases e1
theorem snd_convI {s d : TypeId} {k ks : IntKind} {x : Operand} {x' : GX} (ho : o.op = .convert s d x) (hs : P.underlying s = some (.int ks)) (hd : P.underlying d = some (.int k)) (hx : gx cx x = some x') : Snd P cx o (oConvI k x') :=
  snd_still fun B ρ en h w a v h' E R e => by
    have hv := gx_VR E hx
    obtain ⟨e1, rfl⟩ := ret1_some (show ret1 h (convI1 k (ev en x')) = _ from e)
    refine ⟨rfl, ?_⟩
    generalize ev en x' = u at hv e1
    cases u with
    | int k' n =>
      have hq := hv.int_inv
      simp only [convI1, Option.some.injEq] at e1; subst e1
      refine ⟨.int k (k.wrap n), by simp only [execOp, ho, hq, convert, Conv.intToInt, under_run hs, under_run hd, Sem.run_bind, Sem.run_pure, Result.andThen_ok], ?_⟩
      rw [wrapF_eq]; exact .int _ _
    | _ => cases e1
theorem snd_mkface {t : TypeId} {d : TypeDesc} {x : Operand} {x' : GX} (ho : o.op = .makeInterface t x) (hd : P.underlying t = some d) (hn : ∀ ms, d ≠ .interface ms) (hx : gx cx x = some x') : Snd P cx o (oMkface t x') :=
  snd_still fun B ρ en h w a v h' E R e => by
    simp only [oMkface, Option.some.injEq, Prod.mk.injEq] at e
    obtain ⟨rfl, rfl⟩ := e
    refine ⟨rfl, .iface t (a.eval x), ?_, .iface t _ _ (gx_VR E hx)⟩
    simp only [execOp, ho, Instr.makeInterface, Sem.run_bind, under_run hd, Result.andThen_ok]
    cases d <;> first | rfl | exact absurd rfl (hn _)
theorem snd_mkfunc {fn : Fn} {first captured : Array Operand} {f' c' : List GX} (ho : o.op = .makeFunc fn first captured) (hf : gxs cx first.toList = some f') (hc : gxs cx captured.toList = some c') : Snd P cx o (oMkfunc fn f' c') :=
  snd_still fun B ρ en h w a v h' E R e => by
    cases fn with
    | func f =>
    simp only [oMkfunc, Option.some.injEq, Prod.mk.injEq] at e
    obtain ⟨rfl, rfl⟩ := e
    have g1 := VL.get (ρ := ρ) (xs := (evL en f').toArray) (ys := first.map a.eval) (by simpa using gxs_VL E hf)
    have g2 := VL.get (ρ := ρ) (xs := (evL en c').toArray) (ys := captured.map a.eval) (by simpa using gxs_VL E hc)
    exact ⟨rfl, _, by simp only [execOp, ho, Instr.makeFunc, Sem.run_bind, Sem.run_pure, Result.andThen_ok], .func _ _ _ _ _ (fun l e => by cases e) g1.1 g1.2 g2.1 g2.2⟩
    | _ => cases e
theorem snd_extr {x : Operand} {x' : GX} {i : Nat} (ho : o.op = .extract x i) (hx : gx cx x = some x') : Snd P cx o (oExtr x' i) :=
  snd_still fun B ρ en h w a v h' E R e => by
    have hv := gx_VR E hx
    obtain ⟨e1, rfl⟩ := ret1_some (show ret1 h (extr1 i (ev en x')) = _ from e)
    refine ⟨rfl, ?_⟩
    generalize ev en x' = u at hv e1
    cases u with
    | tuple vs =>
      obtain ⟨ys, hq, hl⟩ := hv.tuple_inv
      have key : ∀ (l : List Value) (j : Nat), nthV l j = l[j]? := by
        intro l
        induction l with
        | nil => intro j; rfl
        | cons u l ih => intro j; cases j with
          | zero => rfl
          | succ j => simpa [nthV] using ih j
      simp only [extr1, key] at e1
      have hi : i < vs.toList.length := (List.getElem?_eq_some_iff.1 e1).1
      have hi2 : i < ys.toList.length := by rw [← hl.1]; exact hi
      have hys : ys[i]? = some ys.toList[i] := by simp at hi2; simp [hi2]
      exact ⟨ys.toList[i], by simp only [execOp, ho, hq, Instr.extract, hys, Sem.run_bind, Sem.run_pure, Result.andThen_ok], hl.2 i _ _ e1 (List.getElem?_eq_getElem hi2)⟩
    | _ => cases e1
theorem snd_fieldA {t : TypeId} {fs : Array Field} {f : Field} {k s : Nat} {x : Operand} {x' : GX} (ho : o.op = .fieldAddr t x k) (ht : P.underlying t = some (.struct fs)) (hk : fs[k]? = some f) (hs : sizeOfT P f.type = some s) (hs0 : s ≠ 0) (hx : gx cx x = some x') : Snd P cx o (oFieldA f.offset x') :=
  snd_still fun B ρ en h w a v h' E R e => by
    have hv := gx_VR E hx
    obtain ⟨e1, rfl⟩ := ret1_some (show ret1 h (fieldA1 f.offset (addrOf (ev en x'))) = _ from e)
    refine ⟨rfl, ?_⟩
    cases hp : addrOf (ev en x') with
    | none => rw [hp] at e1; cases e1
    | some p =>
      rw [hp] at e1
      obtain ⟨H, hH, _, hax⟩ := addrOf_VR hv hp
      simp only [fieldA1, Option.some.injEq] at e1
      subst e1
      refine ⟨.pointer (some ⟨H.blk, H.off + (p.2 + f.offset), none⟩), ?_, .ptr p.1 _ H hH⟩
      simp only [execOp, ho, hax, Instr.fieldAt, Instr.sureAddr, fieldPlace, under_run ht, hk, size_run hs, Sem.run_bind, Sem.run_pure, Result.andThen_ok, if_neg hs0, add_block, Nat.add_assoc]
theorem snd_lenS {c : Call} {x : Operand} {x' : GX} {t : TypeId} (ho : o.op = .call c) (hc : c.callee = .builtin .len) (ha : c.args = #[x]) (hat : c.argTypes[0]? = some t) (ht : P.underlying t = some .string) (hx : gx cx x = some x') : Snd P cx o (oLenS x') :=
  snd_still fun B ρ en h w a v h' E R e => by
    have hv := gx_VR E hx
    obtain ⟨e1, rfl⟩ := ret1_some (show ret1 h (lenS1 (ev en x')) = _ from e)
    refine ⟨rfl, ?_⟩
    generalize ev en x' = u at hv e1
    cases u with
    | string s =>
      have hq := hv.string_inv
      simp only [lenS1, Option.some.injEq] at e1; subst e1
      refine ⟨.int .i64 (s.size : Int), ?_, .int _ _⟩
      simp [execOp, ho, resolve, hc, ha, invoke, builtin, Builtin.len_, hat, under_run ht, hq, goInt]
    | _ => cases e1
theorem snd_lenV {c : Call} {x : Operand} {x' : GX} {t e0 : TypeId} (ho : o.op = .call c) (hc : c.callee = .builtin .len) (ha : c.args = #[x]) (hat : c.argTypes[0]? = some t) (ht : P.underlying t = some (.slice e0)) (hx : gx cx x = some x') : Snd P cx o (oLenV x') :=
  snd_still fun B ρ en h w a v h' E R e => by
    have hv := gx_VR E hx
    obtain ⟨e1, rfl⟩ := ret1_some (show ret1 h (lenV1 (ev en x')) = _ from e)
    refine ⟨rfl, ?_⟩
    generalize ev en x' = u at hv e1
    generalize hq : a.eval x = u' at hv
    cases hv with
    | nilslice =>
      simp only [lenV1, Option.some.injEq] at e1; subst e1
      exact ⟨.int .i64 ((0 : Nat) : Int), by simp [execOp, ho, resolve, hc, ha, invoke, builtin, Builtin.len_, hat, under_run ht, hq, goInt], .int _ _⟩
    | slice id off n c c' H h1 h2 h3 h4 h5 =>
      simp only [lenV1, Option.some.injEq] at e1; subst e1
      exact ⟨.int .i64 (n : Int), by simp [execOp, ho, resolve, hc, ha, invoke, builtin, Builtin.len_, hat, under_run ht, hq, goInt], .int _ _⟩
    | empty b o1 k a' c' =>
      simp only [lenV1, Option.some.injEq] at e1; subst e1
      exact ⟨.int .i64 ((0 : Nat) : Int), by simp [execOp, ho, resolve, hc, ha, invoke, builtin, Builtin.len_, hat, under_run ht, hq, goInt], .int _ _⟩
    | _ => cases e1
theorem snd_lenC {c : Call} {x : Operand} {t e0 : TypeId} {n : Nat} (ho : o.op = .call c) (hc : c.callee = .builtin .len) (ha : c.args = #[x]) (hat : c.argTypes[0]? = some t) (ht : P.underlying t = some (.array n e0)) : Snd P cx o (oLenC n) :=
  snd_still fun B ρ en h w a v h' E R e => by
    simp only [oLenC, Option.some.injEq, Prod.mk.injEq] at e
    obtain ⟨rfl, rfl⟩ := e
    exact ⟨rfl, .int .i64 (n : Int), by simp [execOp, ho, resolve, hc, ha, invoke, builtin, Builtin.len_, hat, under_run ht, goInt], .int _ _⟩
theorem snd_capV {c : Call} {x : Operand} {x' : GX} {t e0 : TypeId} (ho : o.op = .call c) (hc : c.callee = .builtin .cap) (ha : c.args = #[x]) (hat : c.argTypes[0]? = some t) (ht : P.underlying t = some (.slice e0)) (hx : gx cx x = some x') : Snd P cx o (oCapV x') :=
  snd_still fun B ρ en h w a v h' E R e => by
    have hv := gx_VR E hx
    obtain ⟨e1, rfl⟩ := ret1_some (show ret1 h (capV1 (ev en x')) = _ from e)
    refine ⟨rfl, ?_⟩
    generalize ev en x' = u at hv e1
    generalize hq : a.eval x = u' at hv
    cases hv with
    | nilslice =>
      simp only [capV1, Option.some.injEq] at e1; subst e1
      exact ⟨.int .i64 ((0 : Nat) : Int), by simp [execOp, ho, resolve, hc, ha, invoke, builtin, Builtin.cap_, hat, under_run ht, hq, goInt], .int _ _⟩
    | _ => cases e1
theorem snd_minmax {c : Call} {xs : List GX} {mx : Bool} (ho : o.op = .call c) (hc : c.callee = .builtin (if mx then .max else .min)) (hx : gxs cx c.args.toList = some xs) : Snd P cx o (oMinmax mx xs) :=
  snd_still fun B ρ en h w a v h' E R e => by
    have hv := gxs_VL E hx
    obtain ⟨e1, rfl⟩ := ret1_some (show ret1 h (mm1 mx (evL en xs)) = _ from e)
    refine ⟨rfl, ?_⟩
    generalize evL en xs = us at hv e1
    match us, e1 with
    | [.int k m, .int k2 n], e1 =>
      obtain ⟨y, zs, hq, h1, h2⟩ := hv.head
      obtain ⟨y2, zs2, hq2, h3, h4⟩ := h2.head
      obtain rfl := h1.int_inv
      obtain rfl := h3.int_inv
      obtain rfl := h4.nil_left
      subst hq2
      cases mx with
      | true =>
        simp only [mm1, Option.some.injEq] at e1; subst e1
        refine ⟨.int k (if n > m then n else m), ?_, ?_⟩
        · have : c.args.map a.eval = #[.int k m, .int k2 n] := by apply Array.ext'; simpa using hq
          simp [execOp, ho, resolve, hc, invoke, builtin, Builtin.max_, this, Builtin.max2]
        · rw [ltI_eq]
          by_cases hlt : m < n
          · simp [hlt]; exact .int _ _
          · simp [hlt]; exact .int _ _
      | false =>
        simp only [mm1, Option.some.injEq] at e1; subst e1
        refine ⟨.int k (if n < m then n else m), ?_, ?_⟩
        · have : c.args.map a.eval = #[.int k m, .int k2 n] := by apply Array.ext'; simpa using hq
          simp [execOp, ho, resolve, hc, invoke, builtin, Builtin.min_, this, Builtin.min2]
        · rw [ltI_eq]
          by_cases hlt : n < m
          · simp [hlt]; exact .int _ _
          · simp [hlt]; exact .int _ _
end
end Go.Gev

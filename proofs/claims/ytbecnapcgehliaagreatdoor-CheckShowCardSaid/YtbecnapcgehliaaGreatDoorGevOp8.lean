/- Each operation of the evaluator does what the model's does (8): zero elements appended; all together. -/
import Derived.Test.YtbecnapcgehliaaGreatDoorGevOp7
namespace Go.Gev
open Go.RowKit

section
variable {P : Program} {cx : Cx} {o : Oper}

theorem zeroCells_rep (z : Array Value) (n : Nat) : (Builtin.zeroCells z n).toList = rep z.toList n := by
  rcases Nat.eq_zero_or_pos z.size with h0 | h0
  · have : z = #[] := by simpa using h0
    subst this
    have : ∀ n, rep ([] : List Value) n = [] := fun n => by induction n with
      | zero => rfl
      | succ n ih => simp [rep, ih]
    simp [Builtin.zeroCells, this]
  · exact madeCells_rep z n h0

theorem runApp_zeros {P : Program} {w : World} {t ti ty e : TypeId} {i : TypeInfo} {z : Value} {k0 k : IntKind} {m : Nat} (ht : P.underlying t = some (.slice e)) (hti : P.underlying ti = some (.int k0)) (hi : P.info? e = some i) (hz : i.zero = some z)
    (hzc : z.cells.size = i.size) (hpos : 0 < i.size) (hb : 0 < i.bytes) (hm : m * i.bytes ≤ 70368744177664) (hone : ∀ y ∈ z.cells.toList, y.oneCell' = true) : RunApp P w e i z #[t, ti] ty (.int k (m : Int)) m (rep z.cells.toList m) := by
  have hm1 : m ≤ 70368744177664 := Nat.le_trans (Nat.le_mul_of_pos_right m hb) hm
  have hw : IntKind.i64.wrap (m : Int) = (m : Int) := by rw [IntKind.wrap_i64]; omega
  have n1 : ¬ ((m : Int) < 0) := by omega
  have n2 : ¬ ((m : Int) * (i.bytes : Int) > 281474976710656) := by
    have h9 : ((m * i.bytes : Nat) : Int) ≤ 70368744177664 := by omega
    rw [Int.natCast_mul] at h9
    omega
  have happ : ∀ w : World, (if m * i.size = 0 then (pure #[] : Sem (Array Value)) else do pure (Builtin.zeroCells (← zeroValue e).cells m)).run P w = .ok (rep z.cells.toList m).toArray w := fun w => by
    by_cases h0 : m * i.size = 0
    · have : m = 0 := by rcases Nat.mul_eq_zero.1 h0 with h | h <;> omega
      subst this
      simp [rep]
    · have : Builtin.zeroCells z.cells m = (rep z.cells.toList m).toArray := by
        apply Array.ext'
        rw [zeroCells_rep]
      simp [h0, zeroValue, info_run hi, hz, this]
  have hyl : (rep z.cells.toList m).length = m * i.size := by rw [rep_length]; simp [hzc]
  have hy1 : ∀ y ∈ rep z.cells.toList m, y.oneCell' = true := fun y hy => by
    have : ∀ n, y ∈ rep z.cells.toList n → y ∈ z.cells.toList := fun n => by
      induction n with
      | zero => intro h; simp [rep] at h
      | succ n ih => intro h; simp only [rep, List.mem_append] at h; rcases h with h | h
                     · exact h
                     · exact ih h
    exact hone y (this m hy)
  have n3 : ¬ (281474976710656 < (m : Int) * (i.bytes : Int)) := by omega
  have hzr : Builtin.zeroCells z.cells m = (rep z.cells.toList m).toArray := by
    apply Array.ext'
    rw [zeroCells_rep]
  refine ⟨fun hm0 a n c hn => ?_, fun hm0 h64 h48 => ?_, fun g n c cur hg hroom hfit => ?_, fun b n c olds ho1 ho2 hc h64 hfit hm0 => ?_⟩
  · subst hm0
    have hw0 : IntKind.i64.wrap 0 = 0 := by rw [IntKind.wrap_i64]; rfl
    cases a <;> simp [Builtin.append_, run_underlying ht, run_underlying hti, sizeOf, typeInfo, hi, asInt, asIntOf, hw0, hn, storeCells]
  · have hn0' : m ≠ 0 := by omega
    have h63' : ¬ (9223372036854775807 < (m : Int)) := by omega
    have h48' : ¬ (281474976710656 < Builtin.nextslicecap m 0 * i.bytes) := by rw [nextslicecap_zero hm0]; omega
    have hmz : ¬ (m * i.size = 0) := by rw [Nat.mul_eq_zero]; omega
    simp [Builtin.append_, run_underlying ht, run_underlying hti, sizeOf, typeInfo, zeroValue, hi, hz, asInt, asIntOf, hw, n1, n3, hn0', hmz, h63', h48', Question.forced, run_firstCells_none, Go.newRow, grownCap, hzr]
  · have hst := run_storeCells_at P g (n * i.size) e (rep z.cells.toList m) 0 cur w hg (by simpa using hfit) hy1
    simp only [Nat.add_zero] at hst
    by_cases hmz : m * i.size = 0
    · have h0 : m = 0 := by rcases Nat.mul_eq_zero.1 hmz with h | h <;> omega
      subst h0
      have hw0 : IntKind.i64.wrap 0 = 0 := by rw [IntKind.wrap_i64]; rfl
      have hnc : n ≤ c := by omega
      simp only [rep] at hst
      simp [Builtin.append_, run_underlying ht, run_underlying hti, sizeOf, typeInfo, zeroValue, hi, hz, asInt, asIntOf, hw0, hnc, Addr.add_lit, hst, rep]
    · simp [Builtin.append_, run_underlying ht, run_underlying hti, sizeOf, typeInfo, zeroValue, hi, hz, asInt, asIntOf, hw, n1, n3, hroom, hmz, Addr.add_lit, hzr, hst]
  · have hroom : ¬ (n + m ≤ c) := by omega
    have h63' : ¬ (9223372036854775807 < ((n : Int) + (m : Int))) := by omega
    have h48' : ¬ (281474976710656 < Builtin.nextslicecap (n + m) c * i.bytes) := by omega
    have hmz : ¬ (m * i.size = 0) := by rw [Nat.mul_eq_zero]; omega
    have hfo := run_firstCells_some (P := P) w.drew i.size n b n c olds ho1 (by simpa using ho2)
    simp [Builtin.append_, run_underlying ht, run_underlying hti, sizeOf, typeInfo, zeroValue, hi, hz, asInt, asIntOf, hw, n1, n3, hroom, hmz, h63', h48', Question.forced, hfo, Go.newRow, grownCap, hzr]
    congr 2
    apply Array.ext'
    simp [List.append_assoc]

theorem snd_appendZ {c : Call} {t ti e : TypeId} {u b : Nat} {k0 : IntKind} {z : List Value} {s x : Operand} {s' x' : GX} (ho : o.op = .call c) (hc : c.callee = .builtin .append) (ha : c.args = #[s, x]) (hat : c.argTypes = #[t, ti])
    (ht : P.underlying t = some (.slice e)) (hti : P.underlying ti = some (.int k0)) (hu : sizeOfT P e = some u) (hb : bytesOfT P e = some b) (hu0 : u ≠ 0) (hb0 : b ≠ 0) (hz : zeroOf P e = some z) (hs : gx cx s = some s') (hx : gx cx x = some x') : Snd P cx o (oAppendZ e u b z s' x') := fun B ρ en h w a v h' E R hg => by
  unfold oAppendZ at hg
  cases hm : natOf (ev en x') with
  | none => rw [hm] at hg; cases hg
  | some m =>
    rw [hm] at hg
    simp only [appZ1] at hg
    cases hb1 : Nat.ble (Nat.mul m b) 70368744177664 with
    | false => rw [hb1] at hg; cases hg
    | true =>
      rw [hb1] at hg
      simp only [app1] at hg
      cases hall : allOne (rep z m) with
      | false => rw [hall] at hg; cases hg
      | true =>
        rw [hall] at hg
        obtain ⟨k, _, hq⟩ := natOf_VR (gx_VR E hx) hm
        obtain ⟨i, zv, hi, hiz, hzc, hok, hzs⟩ := zeroOf_some hz
        have hiu : i.size = u := by unfold sizeOfT at hu; rw [hi] at hu; injection hu
        have hib : i.bytes = b := by unfold bytesOfT at hb; rw [hi] at hb; injection hb
        subst hiu
        subst hib
        subst hzc
        have hone : ∀ y ∈ zv.cells.toList, y.oneCell' = true := fun y hy => by
          have : ∀ l : List Value, okCL l = true → y ∈ l → y.oneCell' = true := by
            intro l
            induction l with
            | nil => intro _ h; simp at h
            | cons v l ih =>
              intro h1 h2
              simp only [okCL] at h1
              cases hv : okC1 v with
              | false => rw [hv] at h1; cases h1
              | true =>
                rw [hv] at h1
                rcases List.mem_cons.1 h2 with rfl | h2
                · cases y <;> first | rfl | (simp [okC1] at hv)
                · exact ih h1 h2
          exact this _ hok hy
        have A := runApp_zeros (w := w) (ty := o.type) (k := k) (m := m) ht hti hi hiz hzs (by omega) (by omega) (Nat.le_of_ble_eq_true hb1) hone
        obtain ⟨v', w', ρ', h1, h2, h3⟩ := step_app2 R hzs (by omega) (by omega) A (gx_VR E hs) (VL.rep hok m) (by rw [rep_length]; simp [hzs]) hg
        refine ⟨v', w', ρ', .inl ?_, h2, h3⟩
        have hq' : a.eval x = .int k (m : Int) := hq
        simp [execOp, ho, resolve, hc, ha, hat, invoke, builtin, hq', h1]
theorem snd_convS {s d : TypeId} {x : Operand} {x' : GX} (ho : o.op = .convert s d x) (hs : P.underlying s = some .string) (hd : P.underlying d = some .string) (hx : gx cx x = some x') : Snd P cx o (oConvS x') :=
  snd_still fun B ρ en h w a v h' E R e => by
    have hv := gx_VR E hx
    obtain ⟨e1, rfl⟩ := ret1_some (show ret1 h (convS1 (ev en x')) = _ from e)
    refine ⟨rfl, ?_⟩
    generalize ev en x' = u at hv e1
    cases u with
    | string s0 =>
      have hq := hv.string_inv
      simp only [convS1, Option.some.injEq] at e1; subst e1
      exact ⟨.string s0, by simp only [execOp, ho, hq, convert, under_run hs, under_run hd, Sem.run_bind, Sem.run_pure, Result.andThen_ok], .string _⟩
    | _ => cases e1

theorem snd_bad : Snd P cx o oBad := fun B ρ en h w a v h' E R e => by cases e

theorem list_one {xs : Array Operand} {x : Operand} (h : xs.toList = [x]) : xs = #[x] := by apply Array.ext'; simpa using h
theorem list_two {xs : Array Operand} {x y : Operand} (h : xs.toList = [x, y]) : xs = #[x, y] := by apply Array.ext'; simpa using h

theorem snd_binF {op : BinOp} {t yt : TypeId} {x y : Operand} {x' y' : GX} {f : Value → Value → Option Value} (ho : o.op = .binOp op t x y yt) (hf : binF P op (orB (cstB x) (cstB y)) t = some f) (hx : gx cx x = some x') (hy : gx cx y = some y') : Snd P cx o (oV2 f x' y') := by
  have eq2 : ∀ (neg : Bool) (q : E2), eqOf P (orB (cstB x) (cstB y)) t = some q → o.op = .binOp (if neg then .neq else .eql) t x y yt → Snd P cx o (oV2 (e2 neg q) x' y') := fun neg q hq ho2 => by
    unfold eqOf at hq
    split at hq
    · rename_i hd; injection hq with hq; subst hq; exact snd_qB hd ho2 hx hy
    · rename_i te hd
      cases hj : P.info? te with
      | none => rw [hj] at hq; cases hq
      | some j => rw [hj] at hq; injection hq with hq; subst hq; exact snd_qP hd hj ho2 hx hy
    · rename_i hd; injection hq with hq; subst hq; exact snd_qS hd ho2 hx hy
    · rename_i hd
      injection hq with hq
      subst hq
      cases hcc : orB (cstB x) (cstB y) with
      | true => exact snd_qI0 hcc hd ho2 hx hy
      | false => exact snd_qI hd ho2 hx hy
    · rename_i fs hd
      cases hg : (!P.eqGuardType P.depth t && !P.stoodInHeld t) with
      | false => simp only [hg] at hq; cases hq
      | true =>
        simp only [hg] at hq
        cases hk : ckFields P fs.toList 0 with
        | none => rw [hk] at hq; cases hq
        | some ks =>
          rw [hk] at hq
          injection hq with hq
          subst hq
          simp only [Bool.and_eq_true, Bool.not_eq_true'] at hg
          exact snd_qA hd hg.1 hg.2 hk ho2 hx hy
    · cases hq
  unfold binF at hf
  split at hf
  · injection hf with hf; subst hf; exact snd_sh2 (.inl rfl) ho hx hy
  · injection hf with hf; subst hf; exact snd_sh2 (.inr rfl) ho hx hy
  · rename_i hn1 hn2
    split at hf
    · injection hf with hf; subst hf; exact snd_i2 ⟨hn1, hn2⟩ ho hx hy
    · injection hf with hf; subst hf; exact snd_s2 ho hx hy
    · split at hf
      · cases hq : eqOf P (orB (cstB x) (cstB y)) t with
        | none => rw [hq] at hf; cases hf
        | some q => rw [hq] at hf; injection hf with hf; subst hf; exact eq2 false q hq ho
      · cases hq : eqOf P (orB (cstB x) (cstB y)) t with
        | none => rw [hq] at hf; cases hf
        | some q => rw [hq] at hf; injection hf with hf; subst hf; exact eq2 true q hq ho
      · cases hf
    · cases hf

theorem gopS_sound {g : En → Hs → Rs} (h : gopS P cx o = some (.fn g)) : Snd P cx o g := by
  unfold gopS at h
  split at h
  case h_1 x ho | h_2 x ho =>
    simp only [Option.bind_eq_bind, Option.bind_eq_some_iff, Option.some.injEq, GOp.fn.injEq] at h
    obtain ⟨y, hy, rfl⟩ := h
    first | exact snd_mv (.inl ho) hy | exact snd_mv (.inr ho) hy
  case h_3 c a b ho =>
    simp only [Option.bind_eq_bind, Option.bind_eq_some_iff, Option.some.injEq, GOp.fn.injEq] at h
    obtain ⟨c', hc, a', ha, b', hb, rfl⟩ := h
    exact snd_pick ho hc ha hb
  case h_4 e ho =>
    simp only [Option.bind_eq_bind, Option.bind_eq_some_iff, Option.some.injEq, GOp.fn.injEq] at h
    obtain ⟨z, hz, rfl⟩ := h
    exact snd_alloc ho hz
  case h_5 e x ho =>
    simp only [Option.bind_eq_bind, Option.bind_eq_some_iff, Option.some.injEq, GOp.fn.injEq] at h
    obtain ⟨y, hy, rfl⟩ := h
    exact snd_box ho hy
  case h_6 t parts ho =>
    split at h
    · rename_i fs hd
      simp only [Option.bind_eq_bind, Option.bind_eq_some_iff, Option.some.injEq, GOp.fn.injEq] at h
      obtain ⟨pl, hpl, z, hz, ps, hps, rfl⟩ := h
      exact snd_build ho hz hps (.inl ⟨fs, pl, hd, hpl, rfl⟩)
    · rename_i n e hd
      simp only [Option.bind_eq_bind, Option.bind_eq_some_iff, Option.some.injEq, GOp.fn.injEq] at h
      obtain ⟨u, hu, z, hz, ps, hps, rfl⟩ := h
      obtain ⟨ie, h1, h2⟩ : ∃ ie, P.info? e = some ie ∧ ie.size = u := by
        unfold sizeOfT at hu
        cases hi : P.info? e with
        | none => rw [hi] at hu; cases hu
        | some ie => rw [hi] at hu; injection hu with hu; exact ⟨ie, rfl, hu⟩
      subst h2
      exact snd_build ho hz hps (.inr ⟨n, e, ie, hd, h1, rfl⟩)
    · cases h
  case h_7 t len parts ho =>
    split at h
    · rename_i e hd
      simp only [Option.bind_eq_bind, Option.bind_eq_some_iff] at h
      obtain ⟨u, hu, h⟩ := h
      split at h
      · cases h
      · rename_i hn
        simp only [Option.bind_eq_some_iff, Option.some.injEq, GOp.fn.injEq] at h
        obtain ⟨z, hz, ps, hps, rfl⟩ := h
        exact snd_mkrow ho hd hu (fun e => hn (.inl e)) (by omega) hz hps
    · cases h
  case h_8 t a ho =>
    simp only [Option.bind_eq_bind, Option.bind_eq_some_iff] at h
    obtain ⟨b, hb, h⟩ := h
    cases b with
    | true =>
      simp only [if_true, Option.bind_eq_some_iff, Option.some.injEq, GOp.fn.injEq] at h
      obtain ⟨n, hn, y, hy, rfl⟩ := h
      exact snd_loads ho hy hb hn
    | false =>
      simp only [Bool.false_eq_true, if_false, Option.bind_eq_some_iff, Option.some.injEq, GOp.fn.injEq] at h
      obtain ⟨y, hy, rfl⟩ := h
      exact snd_load ho hy hb
  case h_9 t a x ho =>
    simp only [Option.bind_eq_bind, Option.bind_eq_some_iff, Option.some.injEq, GOp.fn.injEq] at h
    obtain ⟨n, hn, a', ha, x', hx, rfl⟩ := h
    exact snd_store ho ha hx hn
  case h_10 x ho =>
    simp only [Option.bind_eq_bind, Option.bind_eq_some_iff, Option.some.injEq, GOp.fn.injEq] at h
    obtain ⟨y, hy, rfl⟩ := h
    exact snd_nilc ho hy
  case h_11 op t x y yt ho =>
    simp only [Option.bind_eq_bind, Option.bind_eq_some_iff, Option.some.injEq, GOp.fn.injEq] at h
    obtain ⟨f, hf, x', hx, y', hy, rfl⟩ := h
    exact snd_binF ho hf hx hy
  case h_12 op t x ho =>
    simp only [Option.bind_eq_bind, Option.bind_eq_some_iff, Option.some.injEq, GOp.fn.injEq] at h
    obtain ⟨x', hx, rfl⟩ := h
    exact snd_un ho hx
  case h_13 s d x ho =>
    split at h
    · rename_i hs hd
      simp only [Option.bind_eq_bind, Option.bind_eq_some_iff, Option.some.injEq, GOp.fn.injEq] at h
      obtain ⟨x', hx, rfl⟩ := h
      exact snd_convI ho hs hd hx
    · rename_i hs hd
      simp only [Option.bind_eq_bind, Option.bind_eq_some_iff, Option.some.injEq, GOp.fn.injEq] at h
      obtain ⟨x', hx, rfl⟩ := h
      exact snd_convS ho hs hd hx
    · cases h
  case h_14 t x ho =>
    split at h
    · cases h
    · cases h
    · rename_i hn1 hn2
      simp only [Option.bind_eq_bind, Option.bind_eq_some_iff, Option.some.injEq, GOp.fn.injEq] at h
      obtain ⟨x', hx, rfl⟩ := h
      cases hd : P.underlying t with
      | none => exact absurd hd hn2
      | some d => exact snd_mkface ho hd (fun ms e => hn1 ms (by rw [hd, e])) hx
  case h_15 fn first captured ho =>
    simp only [Option.bind_eq_bind, Option.bind_eq_some_iff, Option.some.injEq, GOp.fn.injEq] at h
    obtain ⟨f', hf, c', hc, rfl⟩ := h
    exact snd_mkfunc ho hf hc
  case h_16 t l c ho =>
    split at h
    · rename_i e hd
      simp only [Option.bind_eq_bind, Option.bind_eq_some_iff] at h
      obtain ⟨u, hu, b, hb, h⟩ := h
      split at h
      · cases h
      · rename_i hn
        simp only [Option.bind_eq_some_iff, Option.some.injEq, GOp.fn.injEq] at h
        obtain ⟨z, hz, l', hl, c', hc, rfl⟩ := h
        exact snd_mkslice ho hd hu (fun e => hn (.inl e)) hb (fun e => hn (.inr e)) hz hl hc
    · cases h
  case h_17 t x lo hi mx ho =>
    split at h
    · rename_i e hd
      have key : ∀ hmh : mx = none ∨ hi ≠ none, (do some (GOp.fn <| oSlice (← sizeOfT P e) (← gx cx x) (← gxo cx lo) (← gxo cx hi) (← gxo cx mx))) = some (GOp.fn g) → Snd P cx o g := fun hmh h => by
        simp only [Option.bind_eq_bind, Option.bind_eq_some_iff, Option.some.injEq, GOp.fn.injEq] at h
        obtain ⟨u, hu, x', hx, lo', hlo, hi', hhi, mx', hmx, rfl⟩ := h
        exact snd_slice ho hd hu hx hlo hhi hmx hmh
      split at h
      · cases h
      · rename_i hnot
        refine key ?_ h
        cases mx with
        | none => exact .inl rfl
        | some m => cases hi with
          | none => exact absurd rfl (hnot m rfl)
          | some q => exact .inr (by simp)
    · rename_i hd
      split at h
      · simp only [Option.bind_eq_bind, Option.bind_eq_some_iff, Option.some.injEq, GOp.fn.injEq] at h
        obtain ⟨x', hx, lo', hlo, hi', hhi, rfl⟩ := h
        exact snd_cutstr ho hd hx hlo hhi
      · cases h
    · cases h
  case h_18 t x k ho =>
    split at h
    · rename_i fs hd
      split at h
      · rename_i f hk
        simp only [Option.bind_eq_bind, Option.bind_eq_some_iff] at h
        obtain ⟨s, hs, h⟩ := h
        split at h
        · cases h
        · rename_i hn
          simp only [Option.bind_eq_some_iff, Option.some.injEq, GOp.fn.injEq] at h
          obtain ⟨x', hx, rfl⟩ := h
          exact snd_fieldA ho hd hk hs hn hx
      · cases h
    · cases h
  case h_19 t x k ho =>
    split at h
    · rename_i fs hd
      split at h
      · rename_i f hk
        simp only [Option.bind_eq_bind, Option.bind_eq_some_iff] at h
        obtain ⟨b, hb, h⟩ := h
        cases b with
        | true =>
          simp only [if_true, Option.bind_eq_some_iff, Option.some.injEq, GOp.fn.injEq] at h
          obtain ⟨n, hn, x', hx, rfl⟩ := h
          exact snd_fields ho hd hk hb hn hx
        | false =>
          simp only [Bool.false_eq_true, if_false, Option.bind_eq_some_iff, Option.some.injEq, GOp.fn.injEq] at h
          obtain ⟨x', hx, rfl⟩ := h
          exact snd_field ho hd hk hb hx
      · cases h
    · cases h
  case h_20 t x i ho =>
    split at h
    · rename_i e hd
      simp only [Option.bind_eq_bind, Option.bind_eq_some_iff, Option.some.injEq, GOp.fn.injEq] at h
      obtain ⟨u, hu, x', hx, i', hi, rfl⟩ := h
      exact snd_idxA ho hd hu hx hi
    · rename_i n e hd
      simp only [Option.bind_eq_bind, Option.bind_eq_some_iff, Option.some.injEq, GOp.fn.injEq] at h
      obtain ⟨u, hu, x', hx, i', hi, rfl⟩ := h
      exact snd_idxArr ho hd hu hx hi
    · cases h
  case h_21 t x i ho =>
    split at h
    · rename_i hd
      simp only [Option.bind_eq_bind, Option.bind_eq_some_iff, Option.some.injEq, GOp.fn.injEq] at h
      obtain ⟨x', hx, i', hi, rfl⟩ := h
      exact snd_idxS ho hd hx hi
    · cases h
  case h_22 x i ho =>
    simp only [Option.bind_eq_bind, Option.bind_eq_some_iff, Option.some.injEq, GOp.fn.injEq] at h
    obtain ⟨x', hx, rfl⟩ := h
    exact snd_extr ho hx
  case h_23 c ho =>
    split at h
    · simp only [Option.bind_eq_bind, Option.bind_eq_some_iff, Option.some.injEq] at h
      obtain ⟨_, _, h⟩ := h
      cases h
    · simp only [Option.bind_eq_bind, Option.bind_eq_some_iff, Option.some.injEq] at h
      obtain ⟨_, _, _, _, h⟩ := h
      cases h
    · rename_i hc
      split at h
      · rename_i x hxs ht
        simp only [Option.bind_eq_bind, Option.bind_eq_some_iff, Option.some.injEq, GOp.fn.injEq] at h ht
        obtain ⟨x', hx, rfl⟩ := h
        obtain ⟨t, h1, h2⟩ := ht
        exact snd_lenS ho hc (list_one hxs) h1 h2 hx
      · rename_i x e hxs ht
        simp only [Option.bind_eq_bind, Option.bind_eq_some_iff, Option.some.injEq, GOp.fn.injEq] at h ht
        obtain ⟨x', hx, rfl⟩ := h
        obtain ⟨t, h1, h2⟩ := ht
        exact snd_lenV ho hc (list_one hxs) h1 h2 hx
      · rename_i x n e hxs ht
        simp only [Option.bind_eq_some_iff, Option.some.injEq, GOp.fn.injEq] at h ht
        subst h
        obtain ⟨t, h1, h2⟩ := ht
        exact snd_lenC ho hc (list_one hxs) h1 h2
      · cases h
    · rename_i hc
      split at h
      · rename_i x e hxs ht
        simp only [Option.bind_eq_bind, Option.bind_eq_some_iff, Option.some.injEq, GOp.fn.injEq] at h ht
        obtain ⟨x', hx, rfl⟩ := h
        obtain ⟨t, h1, h2⟩ := ht
        exact snd_capV ho hc (list_one hxs) h1 h2 hx
      · cases h
    · rename_i hc
      simp only [Option.bind_eq_bind, Option.bind_eq_some_iff, Option.some.injEq, GOp.fn.injEq] at h
      obtain ⟨xs, hx, rfl⟩ := h
      exact snd_minmax (mx := false) ho hc hx
    · rename_i hc
      simp only [Option.bind_eq_bind, Option.bind_eq_some_iff, Option.some.injEq, GOp.fn.injEq] at h
      obtain ⟨xs, hx, rfl⟩ := h
      exact snd_minmax (mx := true) ho hc hx
    · rename_i hc
      split at h
      · rename_i s x e e2 hxs ht ht2
        simp only [Option.bind_eq_bind, Option.bind_eq_some_iff] at h ht ht2
        obtain ⟨u, hu, b, hb, z, hz, h⟩ := h
        split at h
        · cases h
        · rename_i hn
          simp only [Option.bind_eq_some_iff, Option.some.injEq, GOp.fn.injEq] at h
          obtain ⟨s', hs, x', hx, rfl⟩ := h
          obtain ⟨t, h1, h2⟩ := ht
          have hat : c.argTypes = #[t, t] := by
            have hsz : c.argTypes.size = 2 := by
              by_cases hs2 : c.argTypes.size = 2
              · exact hs2
              · exact absurd (.inr (.inr (.inr hs2))) hn
            have heq : c.argTypes[0]? = c.argTypes[1]? := by
              by_cases hs2 : c.argTypes[0]? = c.argTypes[1]?
              · exact hs2
              · exact absurd (.inr (.inr (.inl hs2))) hn
            apply Array.ext_getElem?
            intro i
            match i with
            | 0 => rw [h1]; rfl
            | 1 => rw [← heq, h1]; rfl
            | i + 2 => rw [Array.getElem?_eq_none (by omega), Array.getElem?_eq_none (by simp)]
          obtain ⟨i, zv, hi, hiz, hzc, hok, hzs⟩ := zeroOf_some hz
          have hiu : i.size = u := by unfold sizeOfT at hu; rw [hi] at hu; injection hu
          have hib : i.bytes = b := by unfold bytesOfT at hb; rw [hi] at hb; injection hb
          exact snd_append ho hc (list_two hxs) hat ⟨h2, ⟨i, zv, hi, hiz, hiu, hib, hzs.trans hiu⟩, by omega, by omega⟩ hs hx
      · rename_i s x e k0 hxs ht ht2
        simp only [Option.bind_eq_bind, Option.bind_eq_some_iff] at h ht ht2
        obtain ⟨u, hu, b, hb, h⟩ := h
        split at h
        · cases h
        · rename_i hn
          simp only [Option.bind_eq_some_iff, Option.some.injEq, GOp.fn.injEq] at h
          obtain ⟨z, hz, s', hs, x', hx, rfl⟩ := h
          obtain ⟨t, h1, h2⟩ := ht
          obtain ⟨ti, h3, h4⟩ := ht2
          have hat : c.argTypes = #[t, ti] := by
            have hsz : c.argTypes.size = 2 := by
              by_cases hs2 : c.argTypes.size = 2
              · exact hs2
              · exact absurd (.inr (.inr hs2)) hn
            apply Array.ext_getElem?
            intro i
            match i with
            | 0 => rw [h1]; rfl
            | 1 => rw [h3]; rfl
            | i + 2 => rw [Array.getElem?_eq_none (by omega), Array.getElem?_eq_none (by simp)]
          exact snd_appendZ ho hc (list_two hxs) hat h2 h4 hu hb (fun e => hn (.inl e)) (fun e => hn (.inr (.inl e))) hz hs hx
      · cases h
    · rename_i hc
      split at h
      · rename_i d s e e2 hxs ht ht2
        simp only [Option.bind_eq_bind, Option.bind_eq_some_iff, Option.some.injEq, GOp.fn.injEq] at h ht ht2
        obtain ⟨u, hu, d', hd, s', hs, rfl⟩ := h
        obtain ⟨t, h1, h2⟩ := ht
        exact snd_copy ho hc (list_two hxs) h1 h2 hu hd hs
      · cases h
    · cases h
  case h_24 => cases h
end
end Go.Gev

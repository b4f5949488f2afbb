/- Each operation of the evaluator does what the model's does (6): '==', literals. -/
import Derived.Test.YtbecnapcgehliaaGreatDoorGevOp5
import Derived.Laws.StructEq
import Derived.Laws.Tables
import Derived.LaidEqlPtr
namespace Go.Gev
open Go.RowKit

section
variable {P : Program} {cx : Cx} {o : Oper}

theorem eqB_eq (a b : Bool) : eqB a b = (a == b) := by cases a <;> cases b <;> rfl
theorem notB_eq (a : Bool) : notB a = !a := by cases a <;> rfl

/-- '==' and '!=' out of what 'equalIn' gives -/
theorem snd_e2 {t yt : TypeId} {x y : Operand} {x' y' : GX} {neg : Bool} {f : E2} (ho : o.op = .binOp (if neg then .neq else .eql) t x y yt) (hx : gx cx x = some x') (hy : gx cx y = some y')
    (H : ∀ (ρ : Ren) (w : World) (u u2 v v2 : Value) (r : Bool), VR ρ u v → VR ρ u2 v2 → f u u2 = some r →
      (eqGuard (if neg then .neq else .eql) t x y v v2).run P w = .ok () w ∧ (binOp (if neg then .neq else .eql) t v v2).run P w = .ok (.bool (if neg then !r else r)) w) : Snd P cx o (oV2 (e2 neg f) x' y') :=
  snd_bin ho hx hy fun ρ w u u2 v v2 r hu hu2 e => by
    unfold e2 at e
    cases hf : f u u2 with
    | none => rw [hf] at e; cases e
    | some b =>
      rw [hf] at e
      obtain ⟨h1, h2⟩ := H ρ w u u2 v v2 b hu hu2 hf
      refine ⟨.bool (if neg then !b else b), by simp only [Sem.run_bind, h1, Result.andThen_ok, h2], ?_⟩
      cases neg with
      | true => simp only [boolO, Option.some.injEq] at e; subst e; rw [notB_eq]; exact .bool _
      | false => simp only [boolO, Option.some.injEq] at e; subst e; exact .bool _

/-- by what 'equalIn' gives -/
theorem bin_of_equal {w : World} {t : TypeId} {v v2 : Value} {r neg : Bool} (hne : ∀ op, op = BinOp.eql ∨ op = BinOp.neq → binOp op t v v2 = (if op = .eql then (do pure (.bool (← Op.equal t v v2))) else (do pure (.bool (!(← Op.equal t v v2))))))
    (h : (Op.equalIn 10000 t v v2).run P w = .ok r w) : (binOp (if neg then .neq else .eql) t v v2).run P w = .ok (.bool (if neg then !r else r)) w := by
  cases neg with
  | true =>
    simp only [if_true]
    rw [hne .neq (.inr rfl)]
    simp [Op.equal, Op.maxDepth, h]
  | false =>
    simp only [Bool.false_eq_true, if_false]
    rw [hne .eql (.inl rfl)]
    simp [Op.equal, Op.maxDepth, h]

theorem snd_qB {t yt : TypeId} {x y : Operand} {x' y' : GX} {neg : Bool} (ht : P.underlying t = some .bool) (ho : o.op = .binOp (if neg then .neq else .eql) t x y yt) (hx : gx cx x = some x') (hy : gx cx y = some y') : Snd P cx o (oV2 (e2 neg qB) x' y') :=
  snd_e2 ho hx hy fun ρ w u u2 v v2 r hu hu2 e => by
    cases u with
    | bool a => cases u2 with
      | bool b =>
        obtain rfl := hu.bool_inv
        obtain rfl := hu2.bool_inv
        simp only [qB, eqB2, Option.some.injEq] at e
        rw [eqB_eq] at e
        subst e
        refine ⟨by cases neg <;> rfl, bin_of_equal (fun op hop => by rcases hop with rfl | rfl <;> rfl) ?_⟩
        exact run_equalIn_bool' w 9999 t a b ht
      | _ => cases e
    | _ => cases e
theorem eqp_run {w : World} {t te : TypeId} (ht : P.underlying t = some (.pointer te)) (d : Nat) (a b : Option Addr) (h : a = none ∨ b = none) : (Op.equalIn (d + 1) t (.pointer a) (.pointer b)).run P w = .ok (a.isNone && b.isNone) w := by
  rcases h with rfl | rfl
  · simp [Op.equalIn, under_run ht]
  · cases a <;> simp [Op.equalIn, under_run ht]
theorem eqs_run {w : World} {t te : TypeId} (ht : P.underlying t = some (.slice te)) (d : Nat) (a b : Option Addr) (n c n2 c2 : Nat) (h : a = none ∨ b = none) : (Op.equalIn (d + 1) t (.slice a n c) (.slice b n2 c2)).run P w = .ok (a.isNone && b.isNone) w := by
  rcases h with rfl | rfl
  · simp [Op.equalIn, under_run ht]
  · cases a <;> simp [Op.equalIn, under_run ht]
theorem eqi_run {w : World} {t : TypeId} {ms : Array (String × TypeId)} (ht : P.underlying t = some (.interface ms)) (d : Nat) (td : TypeId) (z : Value) : (Op.equalIn (d + 1) t .nilIface (.iface td z)).run P w = .ok false w ∧ (Op.equalIn (d + 1) t (.iface td z) .nilIface).run P w = .ok false w := by
  constructor <;> simp [Op.equalIn, under_run ht]
theorem snd_qP {t te yt : TypeId} {j : TypeInfo} {x y : Operand} {x' y' : GX} {neg : Bool} (ht : P.underlying t = some (.pointer te)) (hj : P.info? te = some j) (ho : o.op = .binOp (if neg then .neq else .eql) t x y yt) (hx : gx cx x = some x') (hy : gx cx y = some y') : Snd P cx o (oV2 (e2 neg qP) x' y') :=
  snd_e2 ho hx hy fun ρ w u u2 v v2 r hu hu2 e => by
    cases u with
    | pointer a => cases u2 with
      | pointer b =>
        have key : ∀ a' b' : Option Addr, v = .pointer a' → v2 = .pointer b' → (Op.equalIn 10000 t (.pointer a') (.pointer b')).run P w = .ok r w →
            (eqGuard (if neg then .neq else .eql) t x y v v2).run P w = .ok () w ∧ (binOp (if neg then .neq else .eql) t v v2).run P w = .ok (.bool (if neg then !r else r)) w := fun a' b' h1 h2 h3 => by
          subst h1; subst h2
          exact ⟨by cases neg <;> rfl, bin_of_equal (fun op hop => by rcases hop with rfl | rfl <;> rfl) h3⟩
        cases a with
        | none =>
          have h1 : v = .pointer none := by cases hu; rfl
          cases b with
          | none =>
            have h2 : v2 = .pointer none := by cases hu2; rfl
            simp only [qP, Option.some.injEq] at e; subst e
            exact key _ _ h1 h2 (eqp_run ht 9999 none none (.inl rfl))
          | some b =>
            obtain ⟨b', h2⟩ : ∃ b', v2 = .pointer (some b') := by cases hu2; exact ⟨_, rfl⟩
            simp only [qP, Option.some.injEq] at e; subst e
            exact key _ _ h1 h2 (eqp_run ht 9999 none (some b') (.inl rfl))
        | some a =>
          obtain ⟨a', h1⟩ : ∃ a', v = .pointer (some a') := by cases hu; exact ⟨_, rfl⟩
          cases b with
          | none =>
            have h2 : v2 = .pointer none := by cases hu2; rfl
            simp only [qP, Option.some.injEq] at e; subst e
            exact key _ _ h1 h2 (eqp_run ht 9999 (some a') none (.inr rfl))
          | some b =>
            obtain ⟨ab, ao, as⟩ := a
            obtain ⟨bb, bo, bs⟩ := b
            cases as <;> cases bs <;> simp only [qP] at e <;> try cases e
            cases q1 : Nat.beq ab bb with
            | false => rw [q1] at e; cases e
            | true =>
              rw [q1] at e
              simp only at e
              cases q2 : Nat.beq ao bo with
              | false => rw [q2] at e; cases e
              | true =>
                rw [q2] at e
                injection e with e
                subst e
                have := Nat.eq_of_beq_eq_true q1
                subst this
                have := Nat.eq_of_beq_eq_true q2
                subst this
                have h2 : v2 = .pointer (some a') := by
                  subst h1
                  cases hu with
                  | ptr _ _ H hh => cases hu2 with
                    | ptr _ _ H2 hh2 =>
                      rw [hh] at hh2
                      injection hh2 with hh2
                      subst hh2
                      rfl
                have hsame : ∀ d : Nat, (Op.equalIn (d + 1) t (.pointer (some a')) (.pointer (some a'))).run P w = .ok true w := fun d => by
                  simp [Op.equalIn, run_underlying ht, sizeOf, typeInfo, hj, run_sameAddr_same]
                exact key _ _ h1 h2 (hsame 9999)
      | _ => cases e
    | _ => cases e
theorem slice_inv {ρ : Ren} {a : Option Addr} {n c : Nat} {v : Value} (h : VR ρ (.slice a n c) v) : ∃ a' c', v = .slice a' n c' ∧ (a = none ↔ a' = none) := by
  cases h <;> exact ⟨_, _, rfl, by simp⟩
theorem snd_qS {t te yt : TypeId} {x y : Operand} {x' y' : GX} {neg : Bool} (ht : P.underlying t = some (.slice te)) (ho : o.op = .binOp (if neg then .neq else .eql) t x y yt) (hx : gx cx x = some x') (hy : gx cx y = some y') : Snd P cx o (oV2 (e2 neg qS) x' y') :=
  snd_e2 ho hx hy fun ρ w u u2 v v2 r hu hu2 e => by
    cases u with
    | slice a n c => cases u2 with
      | slice b n2 c2 =>
        obtain ⟨a', c', rfl, ha⟩ := slice_inv hu
        obtain ⟨b', c2', rfl, hb⟩ := slice_inv hu2
        have key : (Op.equalIn 10000 t (.slice a' n c') (.slice b' n2 c2')).run P w = .ok r w →
            (eqGuard (if neg then .neq else .eql) t x y (.slice a' n c') (.slice b' n2 c2')).run P w = .ok () w ∧ (binOp (if neg then .neq else .eql) t (.slice a' n c') (.slice b' n2 c2')).run P w = .ok (.bool (if neg then !r else r)) w := fun h3 =>
          ⟨by cases neg <;> rfl, bin_of_equal (fun op hop => by rcases hop with rfl | rfl <;> rfl) h3⟩
        cases a with
        | none =>
          have h1 := ha.1 rfl
          subst h1
          cases b with
          | none =>
            have h2 := hb.1 rfl
            subst h2
            simp only [qS, Option.some.injEq] at e; subst e
            exact key (eqs_run ht 9999 none none _ _ _ _ (.inl rfl))
          | some b =>
            cases b' with
            | none => have := hb.2 rfl; cases this
            | some b' =>
              simp only [qS, Option.some.injEq] at e; subst e
              exact key (eqs_run ht 9999 none (some b') _ _ _ _ (.inl rfl))
        | some a =>
          cases a' with
          | none => have := ha.2 rfl; cases this
          | some a' =>
            cases b with
            | none =>
              have h2 := hb.1 rfl
              subst h2
              simp only [qS, Option.some.injEq] at e; subst e
              exact key (eqs_run ht 9999 (some a') none _ _ _ _ (.inr rfl))
            | some b => cases e
      | _ => cases e
    | _ => cases e
theorem snd_qI {t yt : TypeId} {ms : Array (String × TypeId)} {x y : Operand} {x' y' : GX} {neg : Bool} (ht : P.underlying t = some (.interface ms)) (ho : o.op = .binOp (if neg then .neq else .eql) t x y yt) (hx : gx cx x = some x') (hy : gx cx y = some y') : Snd P cx o (oV2 (e2 neg qI) x' y') :=
  snd_e2 ho hx hy fun ρ w u u2 v v2 r hu hu2 e => by
    cases u with
    | nilIface => cases u2 with
      | iface d z =>
        have h1 : v = .nilIface := by cases hu; rfl
        obtain ⟨z', h2⟩ : ∃ z', v2 = .iface d z' := by cases hu2; exact ⟨_, rfl⟩
        subst h1; subst h2
        simp only [qI, Option.some.injEq] at e; subst e
        exact ⟨by cases neg <;> rfl, bin_of_equal (fun op hop => by rcases hop with rfl | rfl <;> rfl) ((eqi_run ht 9999 _ _).1)⟩
      | _ => cases e
    | iface d z => cases u2 with
      | nilIface =>
        have h1 : v2 = .nilIface := by cases hu2; rfl
        obtain ⟨z', h2⟩ : ∃ z', v = .iface d z' := by cases hu; exact ⟨_, rfl⟩
        subst h1; subst h2
        simp only [qI, Option.some.injEq] at e; subst e
        exact ⟨by cases neg <;> rfl, bin_of_equal (fun op hop => by rcases hop with rfl | rfl <;> rfl) ((eqi_run ht 9999 _ _).2)⟩
      | _ => cases e
    | _ => cases e

theorem eqi0_run {w : World} {t : TypeId} {ms : Array (String × TypeId)} (ht : P.underlying t = some (.interface ms)) (d : Nat) : (Op.equalIn (d + 1) t .nilIface .nilIface).run P w = .ok true w := by
  simp [Op.equalIn, under_run ht]
theorem eqGuard_cst {op : BinOp} {t : TypeId} {x y : Operand} (hc : orB (cstB x) (cstB y) = true) (w : World) : (eqGuard op t x y .nilIface .nilIface).run P w = .ok () w := by
  cases op <;> cases x <;> cases y <;> first | rfl | cases hc
theorem snd_qI0 {t yt : TypeId} {ms : Array (String × TypeId)} {x y : Operand} {x' y' : GX} {neg : Bool} (hc : orB (cstB x) (cstB y) = true) (ht : P.underlying t = some (.interface ms)) (ho : o.op = .binOp (if neg then .neq else .eql) t x y yt) (hx : gx cx x = some x') (hy : gx cx y = some y') : Snd P cx o (oV2 (e2 neg qI0) x' y') :=
  snd_e2 ho hx hy fun ρ w u u2 v v2 r hu hu2 e => by
    cases u with
    | nilIface => cases u2 with
      | nilIface =>
        have h1 : v = .nilIface := by cases hu; rfl
        have h2 : v2 = .nilIface := by cases hu2; rfl
        subst h1; subst h2
        simp only [qI0, Option.some.injEq] at e; subst e
        exact ⟨eqGuard_cst hc w, bin_of_equal (fun op hop => by rcases hop with rfl | rfl <;> rfl) (eqi0_run ht 9999)⟩
      | iface d z =>
        have h1 : v = .nilIface := by cases hu; rfl
        obtain ⟨z', h2⟩ : ∃ z', v2 = .iface d z' := by cases hu2; exact ⟨_, rfl⟩
        subst h1; subst h2
        simp only [qI0, Option.some.injEq] at e; subst e
        exact ⟨by cases neg <;> rfl, bin_of_equal (fun op hop => by rcases hop with rfl | rfl <;> rfl) ((eqi_run ht 9999 _ _).1)⟩
      | _ => cases e
    | iface d z => cases u2 with
      | nilIface =>
        have h1 : v2 = .nilIface := by cases hu2; rfl
        obtain ⟨z', h2⟩ : ∃ z', v = .iface d z' := by cases hu; exact ⟨_, rfl⟩
        subst h1; subst h2
        simp only [qI0, Option.some.injEq] at e; subst e
        exact ⟨by cases neg <;> rfl, bin_of_equal (fun op hop => by rcases hop with rfl | rfl <;> rfl) ((eqi_run ht 9999 _ _).2)⟩
      | _ => cases e
    | _ => cases e

theorem eqCell_run {w : World} {ρ : Ren} {t : TypeId} {k : CK} {u u2 v v2 : Value} {r : Bool} (hk : ckOf P t = some k) (hu : VR ρ u v) (hu2 : VR ρ u2 v2) (e : eqCell k u u2 = some r) (d : Nat) :
    (Op.equalIn (d + 1) t v v2).run P w = .ok r w ∧ isAggT P t = some false := by
  unfold ckOf at hk
  cases hd : P.underlying t with
  | none => rw [hd] at hk; cases hk
  | some td =>
    rw [hd] at hk
    cases td with
    | int k0 =>
      simp only [Option.some.injEq] at hk; subst hk
      refine ⟨?_, by unfold isAggT; rw [hd]⟩
      cases u with
      | int ka a => cases u2 with
        | int kb b =>
          obtain rfl := hu.int_inv
          obtain rfl := hu2.int_inv
          simp only [eqCell, eqI2] at e
          cases hb : Nat.beq (kn ka) (kn kb) with
          | false => rw [hb] at e; cases e
          | true =>
            rw [hb] at e
            obtain rfl := kn_inj hb
            injection e with e
            subst e
            rw [eqI_eq]
            exact run_equalIn_int w d t ka k0 a b hd
        | _ => cases e
      | _ => cases e
    | bool =>
      simp only [Option.some.injEq] at hk; subst hk
      refine ⟨?_, by unfold isAggT; rw [hd]⟩
      cases u with
      | bool a => cases u2 with
        | bool b =>
          obtain rfl := hu.bool_inv
          obtain rfl := hu2.bool_inv
          simp only [eqCell, eqB2, Option.some.injEq] at e; subst e
          rw [eqB_eq]
          exact run_equalIn_bool' w d t a b hd
        | _ => cases e
      | _ => cases e
    | string =>
      simp only [Option.some.injEq] at hk; subst hk
      refine ⟨?_, by unfold isAggT; rw [hd]⟩
      cases u with
      | string a => cases u2 with
        | string b =>
          obtain rfl := hu.string_inv
          obtain rfl := hu2.string_inv
          simp only [eqCell, eqS2, Option.some.injEq] at e; subst e
          rw [eqL_eq, ← toList_data, ← toList_data]
          exact run_equalIn_string w d t a b hd
        | _ => cases e
      | _ => cases e
    | _ => cases hk
theorem part_run {w : World} {t : TypeId} {cs : Array Value} {off : Nat} {v : Value} (ha : isAggT P t = some false) (hc : cs[off]? = some v) : (part t cs off).run P w = .ok v w := by
  simp [part, isAgg_run ha, hc]
theorem eqFields_run {w : World} {ρ : Ren} (d : Nat) (xs' ys' : Array Value) : ∀ (fs : List Field) (i : Nat) (ks : List CK) (xs ys : List Value) (r : Bool), ckFields P fs i = some ks →
    VL ρ xs (xs'.toList.drop i) → VL ρ ys (ys'.toList.drop i) → eqCells ks xs ys = some r → (Op.eqFields (d + 1) xs' ys' fs).run P w = .ok r w := by
  intro fs
  induction fs with
  | nil =>
    intro i ks xs ys r hk _ _ e
    simp only [ckFields, Option.some.injEq] at hk
    subst hk
    simp only [eqCells, Option.some.injEq] at e
    subst e
    simp [Op.eqFields]
  | cons f fs ih =>
    intro i ks xs ys r hk hx hy e
    simp only [ckFields] at hk
    cases hn : (f.name != "_") && (f.offset == i) with
    | false => rw [hn] at hk; cases hk
    | true =>
      rw [hn] at hk
      simp only [Bool.and_eq_true, bne_iff_ne, beq_iff_eq] at hn
      obtain ⟨hn1, hn2⟩ := hn
      cases hc : ckOf P f.type with
      | none => rw [hc] at hk; cases hk
      | some k =>
        cases hcs : ckFields P fs (i + 1) with
        | none => rw [hc, hcs] at hk; cases hk
        | some kr =>
          rw [hc, hcs] at hk
          injection hk with hk
          subst hk
          cases xs with
          | nil => cases e
          | cons x xs => cases ys with
            | nil => cases e
            | cons y ys =>
              simp only [eqCells] at e
              obtain ⟨x2, xr, hx1, hx2, hx3⟩ := hx.head
              obtain ⟨y2, yr, hy1, hy2, hy3⟩ := hy.head
              have gx1 : xs'[i]? = some x2 := by
                have : (xs'.toList.drop i)[0]? = some x2 := by rw [hx1]; rfl
                simpa using this
              have gy1 : ys'[i]? = some y2 := by
                have : (ys'.toList.drop i)[0]? = some y2 := by rw [hy1]; rfl
                simpa using this
              have gx2 : xs'.toList.drop (i + 1) = xr := by
                have : (xs'.toList.drop i).drop 1 = xr := by rw [hx1]; rfl
                rw [← this, List.drop_drop]
              have gy2 : ys'.toList.drop (i + 1) = yr := by
                have : (ys'.toList.drop i).drop 1 = yr := by rw [hy1]; rfl
                rw [← this, List.drop_drop]
              cases hq : eqCell k x y with
              | none => rw [hq] at e; cases e
              | some b =>
                rw [hq] at e
                obtain ⟨h1, h2⟩ := eqCell_run (w := w) hc hx2 hy2 hq d
                simp only [Op.eqFields, if_pos hn1, Sem.run_bind, hn2, part_run h2 gx1, part_run h2 gy1, Result.andThen_ok, h1]
                cases b with
                | true =>
                  simp only [Bool.not_true, Bool.false_eq_true, if_false]
                  exact ih (i + 1) kr xs ys r hcs (by rw [gx2]; exact hx3) (by rw [gy2]; exact hy3) e
                | false =>
                  injection e with e
                  subst e
                  simp
theorem snd_qA {t yt : TypeId} {fs : Array Field} {ks : List CK} {x y : Operand} {x' y' : GX} {neg : Bool} (ht : P.underlying t = some (.struct fs)) (hg : P.eqGuardType P.depth t = false) (hp : P.stoodInHeld t = false) (hk : ckFields P fs.toList 0 = some ks)
    (ho : o.op = .binOp (if neg then .neq else .eql) t x y yt) (hx : gx cx x = some x') (hy : gx cx y = some y') : Snd P cx o (oV2 (e2 neg (qA ks)) x' y') :=
  snd_e2 ho hx hy fun ρ w u u2 v v2 r hu hu2 e => by
    cases u with
    | agg xs => cases u2 with
      | agg ys =>
        obtain ⟨xs', rfl, hxs⟩ := hu.agg_inv
        obtain ⟨ys', rfl, hys⟩ := hu2.agg_inv
        have hfo : P.fieldsOf t = fs := by unfold Program.fieldsOf; rw [ht]
        refine ⟨run_eqGuard_agg w _ t x y xs' ys' hg, bin_of_equal (fun op hop => by rcases hop with rfl | rfl <;> rfl) ?_⟩
        rw [run_equalIn_struct (P := P) w 9999 t xs' ys' (by rw [hfo]; exact ht) hp, hfo]
        exact eqFields_run (P := P) 9998 xs' ys' fs.toList 0 ks xs.toList ys.toList r hk (by simpa using hxs) (by simpa using hys) e
      | _ => cases e
    | _ => cases e

/-! ### literals -/
theorem splice_get : ∀ (off : Nat) (vs cs : List Value) (i : Nat), (splice off vs cs)[i]? = if off ≤ i ∧ i < off + vs.length ∧ i < cs.length then vs[i - off]? else cs[i]? := by
  intro off
  induction off with
  | zero =>
    intro vs
    induction vs with
    | nil => intro cs i; rw [splice.eq_def]; cases cs <;> simp
    | cons v vs ih =>
      intro cs i
      cases cs with
      | nil => simp [splice]
      | cons c cs =>
        simp only [splice]
        cases i with
        | zero => simp
        | succ i =>
          rw [List.getElem?_cons_succ, ih]
          simp
  | succ off ih =>
    intro vs cs i
    cases vs with
    | nil => rw [show splice (off + 1) [] cs = cs from by cases cs <;> rfl, if_neg (by simp only [List.length_nil]; omega)]
    | cons v vs =>
      cases cs with
      | nil => simp [splice]
      | cons c cs =>
        simp only [splice]
        cases i with
        | zero => simp
        | succ i =>
          rw [List.getElem?_cons_succ, ih, List.getElem?_cons_succ]
          have e1 : i + 1 - (off + 1) = i - off := by omega
          rw [e1]
          by_cases h : off ≤ i ∧ i < off + (v :: vs).length ∧ i < cs.length
          · rw [if_pos h, if_pos (by simp at h ⊢; omega)]
          · rw [if_neg h, if_neg (by simp at h ⊢; omega)]
theorem splice_length (off : Nat) (vs cs : List Value) : (splice off vs cs).length = cs.length := by
  have h : ∀ i, ((splice off vs cs)[i]?).isSome = (cs[i]?).isSome := fun i => by
    rw [splice_get]
    split
    · rename_i hh
      have : i - off < vs.length := by omega
      rw [List.getElem?_eq_getElem this, List.getElem?_eq_getElem hh.2.2]; rfl
    · rfl
  apply Nat.le_antisymm
  · rcases Nat.lt_or_ge cs.length (splice off vs cs).length with hl | hl
    · have := h cs.length; simp [hl] at this
    · exact hl
  · rcases Nat.lt_or_ge (splice off vs cs).length cs.length with hl | hl
    · have := h (splice off vs cs).length; simp [hl] at this
    · exact hl
theorem VL.splice {ρ : Ren} {vs vs' cs cs' : List Value} (off : Nat) (hv : VL ρ vs vs') (hc : VL ρ cs cs') : VL ρ (splice off vs cs) (Gev.splice off vs' cs') := by
  refine ⟨by rw [splice_length, splice_length]; exact hc.1, fun i x y hx hy => ?_⟩
  rw [splice_get] at hx hy
  rw [← hv.1, ← hc.1] at hy
  split at hx
  · rename_i hh; rw [if_pos hh] at hy; exact hv.2 _ x y hx hy
  · rename_i hh; rw [if_neg hh] at hy; exact hc.2 _ x y hx hy
theorem foldl_set (off : Nat) : ∀ (l : List Value) (k : Nat) (arr : Array Value) (i : Nat), ((l.zipIdx k).foldl (fun cs (p : Value × Nat) => cs.setIfInBounds (off + p.2) p.1) arr)[i]? =
    if off + k ≤ i ∧ i < off + k + l.length ∧ i < arr.size then l[i - (off + k)]? else arr[i]? := by
  intro l
  induction l with
  | nil => intro k arr i; rw [if_neg (by simp only [List.length_nil]; omega)]; rfl
  | cons v l ih =>
    intro k arr i
    simp only [List.zipIdx_cons, List.foldl_cons]
    rw [ih, Array.getElem?_setIfInBounds]
    simp only [Array.size_setIfInBounds]
    by_cases h1 : i = off + k
    · subst h1
      rw [if_neg (by omega), if_pos rfl]
      by_cases h2 : off + k < arr.size
      · rw [if_pos h2, if_pos (by simp; omega)]; simp
      · rw [if_neg h2, if_neg (by omega)]; simp; omega
    · by_cases h3 : off + k ≤ i ∧ i < off + k + (v :: l).length ∧ i < arr.size
      · rw [if_pos (by simp at h3; omega), if_pos h3]
        obtain ⟨d, rfl⟩ : ∃ d, i = off + k + (d + 1) := ⟨i - (off + k) - 1, by omega⟩
        rw [show off + k + (d + 1) - (off + (k + 1)) = d from by omega, show off + k + (d + 1) - (off + k) = d + 1 from by omega]
        simp
      · rw [if_neg (by simp at h3 ⊢; omega), if_neg (fun e => h1 e.symm), if_neg h3]
theorem fill_spec {ρ : Ren} {en : En} {a : Act} (E : EnR ρ cx en a.tmps) (place : Nat → Option (Nat × Nat)) : ∀ (parts : List (Nat × Operand)) (ps : List (Nat × Nat × GX)) (cs cs' : List Value) (arr : Array Value),
    partsP cx place parts = some ps → VL ρ cs arr.toList → fillL en ps cs = some cs' → ∃ arr', Instr.fill place arr (parts.map fun p => (p.1, a.eval p.2)) = some arr' ∧ VL ρ cs' arr'.toList := by
  intro parts
  induction parts with
  | nil =>
    intro ps cs cs' arr h1 h2 h3
    simp only [partsP, Option.some.injEq] at h1
    subst h1
    simp only [fillL, Option.some.injEq] at h3
    subst h3
    exact ⟨arr, rfl, h2⟩
  | cons p parts ih =>
    intro ps cs cs' arr h1 h2 h3
    obtain ⟨i, x⟩ := p
    simp only [partsP] at h1
    cases hp : place i with
    | none => rw [hp] at h1; cases h1
    | some pl =>
      cases hx : gx cx x with
      | none => rw [hp, hx] at h1; cases h1
      | some y =>
        cases hr : partsP cx place parts with
        | none => rw [hp, hx, hr] at h1; cases h1
        | some ys =>
          rw [hp, hx, hr] at h1
          injection h1 with h1
          subst h1
          simp only [fillL, fill1] at h3
          have hv := gx_VR E hx
          cases hd : isDunno (ev en y) with
          | true => rw [hd] at h3; cases h3
          | false =>
            rw [hd] at h3
            have hne : ev en y ≠ .chan none := fun e1 => by rw [e1] at hd; cases hd
            have hcs := hv.cells hne
            cases hb : Nat.beq (cellsL (ev en y)).length pl.2 with
            | false => rw [hb] at h3; cases h3
            | true =>
              rw [hb] at h3
              cases hb2 : Nat.ble (Nat.add pl.1 pl.2) cs.length with
              | false => rw [hb2] at h3; cases h3
              | true =>
                rw [hb2] at h3
                have hsz : (a.eval x).cells.size = pl.2 := by
                  have := hcs.1
                  rw [Nat.eq_of_beq_eq_true hb] at this
                  simpa using this.symm
                have hfit : pl.1 + pl.2 ≤ arr.size := by
                  have h9 : pl.1 + pl.2 ≤ cs.length := Nat.le_of_ble_eq_true hb2
                  rw [h2.1] at h9
                  simpa using h9
                have hset : ((a.eval x).cells.zipIdx.foldl (fun cs (p : Value × Nat) => cs.setIfInBounds (pl.1 + p.2) p.1) arr).toList = splice pl.1 (a.eval x).cells.toList arr.toList := by
                  apply List.ext_getElem?
                  intro j
                  rw [splice_get]
                  have := foldl_set pl.1 (a.eval x).cells.toList 0 arr j
                  simp only [Nat.add_zero] at this
                  rw [Array.getElem?_toList, ← Array.foldl_toList, Array.toList_zipIdx, this]
                  simp
                obtain ⟨arr', g1, g2⟩ := ih ys _ cs' ((a.eval x).cells.zipIdx.foldl (fun cs (p : Value × Nat) => cs.setIfInBounds (pl.1 + p.2) p.1) arr) hr (by rw [hset]; exact VL.splice _ hcs h2) h3
                refine ⟨arr', ?_, g2⟩
                obtain ⟨off, sz⟩ := pl
                simp only [List.map_cons, Instr.fill, hp]
                have hnot : ((a.eval x).cells.size ≠ sz || off + (a.eval x).cells.size > arr.size) = false := by
                  simp only at hsz hfit
                  simp [hsz]; omega
                rw [if_neg (by simp only at hsz hfit; simp [hsz]; omega)]
                exact g1
end
end Go.Gev

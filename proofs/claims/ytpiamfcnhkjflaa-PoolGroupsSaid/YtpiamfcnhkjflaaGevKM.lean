/- The fast evaluator's runs are the model's: code, calls, all runs. -/
import Derived.Test.YtpiamfcnhkjflaaGevKS
namespace Go.Gev
open Go.RowKit

section
variable {P : Program}

theorem doOp_val {R : Rn} {en : En} {h h1 : Hs} {v : Value} {g : GOp} (hd : doOp R en h (fun v h => some (.val v h)) g = some (.val v h1)) (K : KV) : doOp R en h K g = K v h1 := by
  have val : ∀ x : Option Out, isVal (fun v h => some (.val v h)) x = some (.val v h1) → isVal K x = K v h1 := fun x hx => by
    cases x with
    | none => cases hx
    | some y => cases y with
      | fin e fr h1 => cases hx
      | val v h1 =>
        simp only [isVal, Option.some.injEq, Out.val.injEq] at hx
        obtain ⟨rfl, rfl⟩ := hx
        rfl
  cases g with
  | fn g =>
    simp only [doOp] at hd ⊢
    cases hg : g en h with
    | none => rw [hg] at hd; cases hd
    | some p =>
      rw [hg] at hd
      simp only [after, Option.some.injEq, Out.val.injEq] at hd
      obtain ⟨rfl, rfl⟩ := hd
      rfl
  | call f args => exact val _ hd
  | callv f args => exact val _ hd
theorem dStep_of_rec {R : Rn} {fr : Fr} {h0 : Hs} {d : DOper} {loc : List Value} {hist : List (Nat × Nat)} {h h' : Hs} {v : Value} {K : Value → Hs → An} {o : Out} (hd : DRec R fr h0 d loc hist h v h') (hk : K v h' = some o) : dStep R fr h0 loc hist h d K = some o := by
  unfold dStep
  rcases hd with ⟨hg, rfl, rfl⟩ | ⟨hg, h1, hop, hf, rfl⟩
  · rw [hg]; exact hk
  · rw [hg]
    simp only [dGo]
    rw [doOp_val hop, hf]
    exact hk
theorem runD_indep {R : Rn} {fr : Fr} {h0 : Hs} {K : List Value → Hs → An} {out : Out} : ∀ (ops : List DOper) (loc : List Value) (hist : List (Nat × Nat)) (h : Hs), runD R fr h0 K ops loc hist h = some out →
    ∃ L h', K L h' = some out ∧ ∀ (K' : List Value → Hs → An) (o' : Out), K' L h' = some o' → runD R fr h0 K' ops loc hist h = some o' := by
  intro ops
  induction ops with
  | nil => intro loc hist h hh; exact ⟨loc, h, hh, fun _ _ hk => hk⟩
  | cons d rest ih =>
    intro loc hist h hh
    rw [runD_cons] at hh
    obtain ⟨v, h1, hrec, hk⟩ := dStep_rec hh
    obtain ⟨L, h', e1, e2⟩ := ih _ _ _ hk
    exact ⟨L, h', e1, fun K' o' hk' => by rw [runD_cons]; exact dStep_of_rec hrec (e2 K' o' hk')⟩

theorem Agr.putAll {ms : List (List Bool)} : ∀ (ps : List (Option (List Bool))) (vs : List Value) (fr : Fr), (∀ p, some p ∈ ps → p ∈ ms) → Agr ms fr (putAll ps vs fr) := by
  intro ps
  induction ps with
  | nil => intro vs fr _; exact Agr.refl _ _
  | cons p ps ih =>
    intro vs fr hp
    cases vs with
    | nil => exact Agr.refl _ _
    | cons v vs => exact (Agr.put fun q hq => hp q (by rw [hq]; exact List.mem_cons_self)).trans (ih vs _ fun q hq => hp q (List.mem_cons_of_mem _ hq))
theorem ptsOf_mem {sl : List Nat} {p : List Bool} : ∀ {os : List Oper}, some p ∈ ptsOf sl os → ∃ o t, o ∈ os ∧ o.dst = some t ∧ slot sl t = some p := by
  intro os
  induction os with
  | nil => intro h; cases h
  | cons o os ih =>
    intro h
    simp only [ptsOf] at h
    rcases List.mem_cons.1 h with h | h
    · cases hd : o.dst with
      | none => rw [hd] at h; cases h
      | some t => rw [hd] at h; exact ⟨o, t, List.mem_cons_self, hd, h.symm⟩
    · obtain ⟨o', t, h1, h2, h3⟩ := ih h
      exact ⟨o', t, List.mem_cons_of_mem _ h1, h2, h3⟩

variable {R : RnK}
set_option maxHeartbeats 1000000 in
/-- CODE -/
theorem cev_wp (hm : P.follows .mixedOrders = true) (hN : Named P) (G : Good P (toRn R)) (hcall : ∀ f args v h h', toRn R (.call f args) .e h = some (.val v h') → ∃ g, FF P f = some g) {F : Nat} {N : Nat} {sl : List Nat} {out : Out} : ∀ (c : Code) (fr : Fr) (h : Hs) (Kn Kr : Fr → Hs → An) (Ke : Nat → Fr → Hs → An) (B : Nat) (ρ : Ren) (a : Act) (w : World) (Q : Exit → Act → World → Prop),
    cev R F (kcode P N sl c) fr h Kn Kr Ke = some out → FrR ρ sl N fr a.tmps → HR B ρ h w →
    (∀ fr' h' a' w' ρ', Kn fr' h' = some out → Agr (msOf sl (mods sl c)) fr fr' → FrR ρ' sl N fr' a'.tmps → St B ρ h w ρ' h' w' → a'.defers = a.defers → Q .normal a' w') →
    (∀ fr' h' a' w' ρ', Kr fr' h' = some out → FrR ρ' sl N fr' a'.tmps → St B ρ h w ρ' h' w' → a'.defers = a.defers → Q .ret a' w') →
    (∀ id fr' h' a' w' ρ', Ke id fr' h' = some out → Agr (msOf sl (mods sl c)) fr fr' → FrR ρ' sl N fr' a'.tmps → St B ρ h w ρ' h' w' → a'.defers = a.defers → Q (.exit id) a' w') → c.wp P Q a w := by
  have mono : ∀ (x y : Nat), (∀ i, x.testBit i = true → y.testBit i = true) → ∀ p, p ∈ msOf sl x → p ∈ msOf sl y := fun x y h p hp => msFrom_mono h _ p hp
  intro c
  induction c with
  | skip =>
    intro fr h Kn Kr Ke B ρ a w Q hr L Rl hn hk he
    exact wp_skip (hn fr h a w ρ hr (Agr.refl _ _) L (St.refl Rl) rfl)
  | ret =>
    intro fr h Kn Kr Ke B ρ a w Q hr L Rl hn hk he
    exact wp_ret (hk fr h a w ρ hr L (St.refl Rl) rfl)
  | exit id =>
    intro fr h Kn Kr Ke B ρ a w Q hr L Rl hn hk he
    exact wp_exit (he id fr h a w ρ hr (Agr.refl _ _) L (St.refl Rl) rfl)
  | seq x y ix iy =>
    intro fr h Kn Kr Ke B ρ a w Q hr L Rl hn hk he
    have hr : cev R F (kcode P N sl x) fr h (fun fr h => cev R F (kcode P N sl y) fr h Kn Kr Ke) Kr Ke = some out := hr
    have mx := mono (mods sl x) (mods sl (.seq x y)) fun i => lor_left
    have my := mono (mods sl y) (mods sl (.seq x y)) fun i => lor_right
    refine wp_seq (ix fr h _ Kr Ke B ρ a w _ hr L Rl (fun fr1 h1 a1 w1 ρ1 hr1 A1 L1 s1 d1 => ?_) (fun fr1 h1 a1 w1 ρ1 hr1 L1 s1 d1 => hk fr1 h1 a1 w1 ρ1 hr1 L1 s1 d1)
      (fun id fr1 h1 a1 w1 ρ1 hr1 A1 L1 s1 d1 => he id fr1 h1 a1 w1 ρ1 hr1 (A1.mono mx) L1 s1 d1))
    show y.wp P Q a1 w1
    exact iy fr1 h1 Kn Kr Ke B ρ1 a1 w1 Q hr1 L1 s1.hr (fun fr2 h2 a2 w2 ρ2 q A2 L2 s2 d2 => hn fr2 h2 a2 w2 ρ2 q ((A1.mono mx).trans (A2.mono my)) L2 (St.trans Rl s1 s2) (d2.trans d1))
      (fun fr2 h2 a2 w2 ρ2 q L2 s2 d2 => hk fr2 h2 a2 w2 ρ2 q L2 (St.trans Rl s1 s2) (d2.trans d1))
      (fun id fr2 h2 a2 w2 ρ2 q A2 L2 s2 d2 => he id fr2 h2 a2 w2 ρ2 q ((A1.mono mx).trans (A2.mono my)) L2 (St.trans Rl s1 s2) (d2.trans d1))
  | cond q x y ix iy =>
    intro fr h Kn Kr Ke B ρ a w Q hr L Rl hn hk he
    simp only [kcode] at hr
    cases hx : gx (plainCx sl []) q with
    | none => rw [hx] at hr; cases hr
    | some q' =>
      rw [hx] at hr
      have mx := mono (mods sl x) (mods sl (.cond q x y)) fun i => lor_left
      have my := mono (mods sl y) (mods sl (.cond q x y)) fun i => lor_right
      have hr : cnd (ev ⟨fr, []⟩ q') (cev R F (kcode P N sl x) fr h (fun fr' h' => app (msOf sl (mods sl (.cond q x y))) (lam (msOf sl (mods sl (.cond q x y))) Kn fr) fr' h') Kr Ke)
        (cev R F (kcode P N sl y) fr h (fun fr' h' => app (msOf sl (mods sl (.cond q x y))) (lam (msOf sl (mods sl (.cond q x y))) Kn fr) fr' h') Kr Ke) = some out := hr
      obtain ⟨t, ht, hr⟩ := vBool_some hr
      have hv := gx_VR (a := a) L.en hx
      rw [ht] at hv
      have hq := hv.bool_inv
      have hn2 : ∀ fr' h' a' w' ρ', app (msOf sl (mods sl (.cond q x y))) (lam (msOf sl (mods sl (.cond q x y))) Kn fr) fr' h' = some out → Agr (msOf sl (mods sl (.cond q x y))) fr fr' → FrR ρ' sl N fr' a'.tmps → St B ρ h w ρ' h' w' → a'.defers = a.defers → Q .normal a' w' := fun fr' h' a' w' ρ' hh A' L' s' d' => by
        rw [app_lam] at hh
        exact hn _ h' a' w' ρ' hh (fun p hp => by rw [upd_get, if_neg hp]) (L'.of_get A'.upd) s' d'
      cases t with
      | true => exact wp_cond_true hq (ix fr h _ Kr Ke B ρ a w Q hr L Rl (fun fr' h' a' w' ρ' hh A' => hn2 fr' h' a' w' ρ' hh (A'.mono mx)) hk (fun id fr' h' a' w' ρ' hh A' => he id fr' h' a' w' ρ' hh (A'.mono mx)))
      | false => exact wp_cond_false hq (iy fr h _ Kr Ke B ρ a w Q hr L Rl (fun fr' h' a' w' ρ' hh A' => hn2 fr' h' a' w' ρ' hh (A'.mono my)) hk (fun id fr' h' a' w' ρ' hh A' => he id fr' h' a' w' ρ' hh (A'.mono my)))
  | block id b ib =>
    intro fr h Kn Kr Ke B ρ a w Q hr L Rl hn hk he
    have hr : cev R F (kcode P N sl b) fr h (fun fr' h' => app (msOf sl (mods sl b)) (lam (msOf sl (mods sl b)) Kn fr) fr' h') Kr
      (fun id' fr' h' => Bool.rec (motive := fun _ => An) (Ke id' fr' h') (app (msOf sl (mods sl b)) (lam (msOf sl (mods sl b)) Kn fr) fr' h') (Nat.beq id' id)) = some out := hr
    have hn2 : ∀ fr' h' a' w' ρ', app (msOf sl (mods sl b)) (lam (msOf sl (mods sl b)) Kn fr) fr' h' = some out → Agr (msOf sl (mods sl b)) fr fr' → FrR ρ' sl N fr' a'.tmps → St B ρ h w ρ' h' w' → a'.defers = a.defers → Q .normal a' w' := fun fr' h' a' w' ρ' hh A' L' s' d' => by
      rw [app_lam] at hh
      exact hn _ h' a' w' ρ' hh (fun p (hp : p ∉ msOf sl (mods sl b)) => by rw [upd_get, if_neg hp]) (L'.of_get A'.upd) s' d'
    refine wp_block (ib fr h _ Kr _ B ρ a w _ hr L Rl (fun fr' h' a' w' ρ' hh A' L' s' d' => ?_) (fun fr' h' a' w' ρ' hh L' s' d' => ?_) (fun id' fr' h' a' w' ρ' hh A' L' s' d' => ?_))
    · exact hn2 fr' h' a' w' ρ' hh A' L' s' d'
    · exact hk fr' h' a' w' ρ' hh L' s' d'
    · cases hq : Nat.beq id' id with
      | true =>
        rw [hq] at hh
        have := Nat.eq_of_beq_eq_true hq
        subst this
        show Exit.inBlock _ _ (.exit _) a' w'
        simp only [Exit.inBlock, if_true]
        exact hn2 fr' h' a' w' ρ' hh A' L' s' d'
      | false =>
        rw [hq] at hh
        have hne := beq_false.1 hq
        show Exit.inBlock _ _ (.exit _) a' w'
        simp only [Exit.inBlock, if_neg hne]
        exact he id' fr' h' a' w' ρ' hh A' L' s' d'
  | loop b ib =>
    intro fr h Kn Kr Ke B ρ a w Q hr L Rl hn hk he
    have hr : app (msOf sl (mods sl b)) (lpT (bot (msOf sl (mods sl b))) F (fun self => lam (msOf sl (mods sl b)) (fun fx hx => cev R F (kcode P N sl b) fx hx (fun fr' h' => app (msOf sl (mods sl b)) self fr' h') Kr Ke) fr)) fr h = some out := hr
    have key : ∀ (n : Nat) (fr1 : Fr) (h1 : Hs) (ρ1 : Ren) (a1 : Act) (w1 : World), app (msOf sl (mods sl b)) (lpT (bot (msOf sl (mods sl b))) n (fun self => lam (msOf sl (mods sl b)) (fun fx hx => cev R F (kcode P N sl b) fx hx (fun fr' h' => app (msOf sl (mods sl b)) self fr' h') Kr Ke) fr)) fr1 h1 = some out →
        Agr (msOf sl (mods sl b)) fr fr1 → FrR ρ1 sl N fr1 a1.tmps → St B ρ h w ρ1 h1 w1 → a1.defers = a.defers → Code.rounds P b Q n a1 w1 := by
      intro n
      induction n with
      | zero =>
        intro fr1 h1 ρ1 a1 w1 hh
        have hh : app (msOf sl (mods sl b)) (bot (msOf sl (mods sl b))) fr1 h1 = some out := hh
        rw [app_bot] at hh
        cases hh
      | succ n ihn =>
        intro fr1 h1 ρ1 a1 w1 hh A1 L1 s1 d1
        have hh : app (msOf sl (mods sl b)) (lam (msOf sl (mods sl b)) (fun fx hx => cev R F (kcode P N sl b) fx hx (fun fr' h' => app (msOf sl (mods sl b)) (lpT (bot (msOf sl (mods sl b))) n (fun self => lam (msOf sl (mods sl b)) (fun fx hx => cev R F (kcode P N sl b) fx hx (fun fr' h' => app (msOf sl (mods sl b)) self fr' h') Kr Ke) fr)) fr' h') Kr Ke) fr) fr1 h1 = some out := hh
        rw [app_lam] at hh
        have hU : Agr (msOf sl (mods sl b)) fr (upd (msOf sl (mods sl b)) fr fr1) := fun p hp => by rw [upd_get, if_neg hp]
        rw [rounds_succ]
        refine ib _ h1 _ Kr Ke B ρ1 a1 w1 _ hh (L1.of_get A1.upd) s1.hr (fun fr2 h2 a2 w2 ρ2 q A2 L2 s2 d2 => ?_) (fun fr2 h2 a2 w2 ρ2 q L2 s2 d2 => ?_) (fun id fr2 h2 a2 w2 ρ2 q A2 L2 s2 d2 => ?_)
        · show Code.rounds P b Q n a2 w2
          exact ihn fr2 h2 ρ2 a2 w2 q (hU.trans A2) L2 (St.trans Rl s1 s2) (d2.trans d1)
        · exact hk fr2 h2 a2 w2 ρ2 q L2 (St.trans Rl s1 s2) (d2.trans d1)
        · exact he id fr2 h2 a2 w2 ρ2 q (hU.trans A2) L2 (St.trans Rl s1 s2) (d2.trans d1)
    exact wp_loop_rounds F (key F fr h ρ a w hr (Agr.refl _ _) L (St.refl Rl) rfl)
  | region id ops draw =>
    intro fr h Kn Kr Ke B ρ a w Q hr L Rl hn hk he
    cases draw with
    | false =>
      have hr : cOps R (kopers P N sl ops ops.toList []) fr [] h Kn = some out := hr
      refine wp_region ?_
      rw [List.range_eq_range']
      have := kOps_wp hN G hcall (ops := ops) (df0 := a.defers) Rl (fr0 := fr) (Q := Q) (fun fr' h' a' w' ρ' q A' L' s' d' => hn fr' h' a' w' ρ' q A' L' s' d') ops.toList 0 [] fr [] h ρ a w (by simp) (by simp) hr L.lo (St.refl Rl) rfl (Agr.refl _ _)
      simpa using this
    | true =>
      have hr : cev R F (kdregC P N sl ops) fr h Kn Kr Ke = some out := hr
      unfold kdregC at hr
      cases hbf : befs ops.toList 0 [] with
      | none => rw [hbf] at hr; cases hr
      | some ms =>
        rw [hbf] at hr
        simp only [kdregOf] at hr
        cases hap : apartN (dstsOf ops.toList) with
        | false => rw [hap] at hr; cases hr
        | true =>
          rw [hap] at hr
          generalize hlw : lwOf P sl ops ms = lw at hr
          have hr : kDreg R (kdopers P lw sl ops (dstNs N ops.toList) ms ops.toList ms (inters (onesOf ms) (blinds lw ops.toList) ms) 0 0) (ptsOf sl ops.toList) lw fr h Kn = some out := hr
          obtain ⟨ho1, ho2⟩ := kdopers_old (P := P) (lw := lw) (fr := fr) (sl := sl) (ops := ops) (ds := dstNs N ops.toList) (all := ms) ops.toList ms (inters (onesOf ms) (blinds lw ops.toList) ms) 0 0
          obtain ⟨hcut, hr⟩ : Nat.ble (cutO fr lw) h.nx = true ∧ kD R fr (dStart fr h lw) (fun loc h' => Kn (putAll (ptsOf sl ops.toList) loc.reverse fr) (dEnd fr h h' lw)) (kdopers P lw sl ops (dstNs N ops.toList) ms ops.toList ms (inters (onesOf ms) (blinds lw ops.toList) ms) 0 0) [] [] (dStart fr h lw) = some out := by
            cases lw with
            | none => exact ⟨rfl, hr⟩
            | some p =>
              unfold kDreg at hr
              cases hb : Nat.ble (cutO fr (some p)) h.nx with
              | false => simp only [hb] at hr; cases hr
              | true => simp only [hb] at hr; exact ⟨rfl, hr⟩
          have hc := Nat.le_of_ble_eq_true hcut
          have hd := kD_runD fr (dStart fr h lw) (cutO fr lw) _ out _ ho2 [] [] [] (dStart fr h lw) trivial (dStart_cut hc).1 (dStart_cut hc).2 hr
          rw [ho1] at hd
          obtain ⟨Lv, h', hkn, hall⟩ := runD_indep _ _ _ _ hd
          have hst : stepC (toRn R) fr h (dregC P N sl ops) = some (.fin .nor (putAll (ptsOf sl ops.toList) Lv.reverse fr) (dEnd fr h h' lw)) := by
            unfold dregC
            rw [hbf]
            simp only [dregOf]
            rw [hap]
            simp only [dregW, hlw, stepC, runDreg, hcut]
            exact hall (fun loc h' => some (.fin .nor (putAll (ptsOf sl ops.toList) loc.reverse fr) (dEnd fr h h' lw))) _ rfl
          refine wp_mono (dreg_wp hm hN G hcall hst L Rl) fun x a1 w1 hc => ?_
          obtain ⟨rfl, d1, ρ1, L1, s1⟩ := hc
          refine hn _ (dEnd fr h h' lw) a1 w1 ρ1 hkn (Agr.putAll _ _ _ fun p hp => ?_) L1 s1 d1
          obtain ⟨o, t, q1, q2, q3⟩ := ptsOf_mem hp
          exact bitOf_mem q3 (opsMods_mem q1 q2)
  | rangeFunc f ps as b _ _ => intro fr h Kn Kr Ke B ρ a w Q hr; cases hr
  | scope b _ => intro fr h Kn Kr Ke B ρ a w Q hr; cases hr
  | label l => intro fr h Kn Kr Ke B ρ a w Q hr; cases hr
  | goto l => intro fr h Kn Kr Ke B ρ a w Q hr; cases hr
  | refuse y => intro fr h Kn Kr Ke B ρ a w Q hr; cases hr

/-! ### results, clearing up -/
theorem tmpsR_res {en : En} {h : Hs} : ∀ {rs : List GRes} {xs : List GX}, tmpsR rs = some xs → resV en h rs = some (evL en xs) := by
  intro rs
  induction rs with
  | nil => intro xs h1; simp only [tmpsR, Option.some.injEq] at h1; subst h1; rfl
  | cons r rs ih =>
    intro xs h1
    cases r with
    | cell x n ag => cases h1
    | t x =>
      simp only [tmpsR] at h1
      cases hr : tmpsR rs with
      | none => rw [hr] at h1; cases h1
      | some ys =>
        rw [hr] at h1
        simp only [Option.some.injEq] at h1
        subst h1
        simp only [resV, ih hr, consR, evL]
theorem packR_V (h : Hs) (vs : List Value) : packR h (some vs) = some (.val (packV vs) h) := by
  cases vs with
  | nil => rfl
  | cons v ws => cases ws <;> rfl
theorem mvCell_flat {src : Tr Blk} {n0 : Nat} {m : Mv} {v : Value} (hv : flat1 v = true) : mvCell src n0 m v = some (v, m) := by
  cases v <;> first | rfl | cases hv | skip
  case pointer a => cases a <;> first | rfl | cases hv
  case slice a n c => cases a <;> first | rfl | cases hv
theorem mvPart_flat {src : Tr Blk} {n0 : Nat} {m : Mv} {v : Value} (hv : flat1 v = true) : mvPart src n0 m v = some (v, m) := by
  have := mvCell_flat (src := src) (n0 := n0) (m := m) hv
  cases v <;> first | exact this | cases hv
theorem mvCells_flat {src : Tr Blk} {n0 : Nat} {m : Mv} : ∀ {vs : List Value}, flatL vs = true → mvCells src n0 vs m = some (vs, m) := by
  intro vs
  induction vs with
  | nil => intro _; rfl
  | cons v vs ih =>
    intro h
    simp only [flatL] at h
    cases hv : flat1 v with
    | false => rw [hv] at h; cases h
    | true => rw [hv] at h; simp only [mvCells, mvCell_flat hv, mvCons, ih h]
theorem mvParts_flat {src : Tr Blk} {n0 : Nat} {m : Mv} : ∀ {vs : List Value}, flatL vs = true → mvParts src n0 vs m = some (vs, m) := by
  intro vs
  induction vs with
  | nil => intro _; rfl
  | cons v vs ih =>
    intro h
    simp only [flatL] at h
    cases hv : flat1 v with
    | false => rw [hv] at h; cases h
    | true => rw [hv] at h; simp only [mvParts, mvPart_flat hv, mvCons, ih h]
theorem clrL_eq {h0 h : Hs} {v : Value} {vs : List Value} (hv : flatL vs = true → mvAll h.hp h0.nx ⟨h0.hp, h0.nx, []⟩ v = some (v, ⟨h0.hp, h0.nx, []⟩)) : clrL h0 v h vs = clrS h0 v h := by
  unfold clrL
  cases hf : flatL vs with
  | false => rfl
  | true =>
    unfold clrS
    rw [hv hf]
    rfl
theorem clrV_eq (h0 : Hs) (v : Value) (h : Hs) : clrV h0 v h = clrS h0 v h := by
  have hagg : ∀ cs : Array Value, flatL cs.toList = true → mvAll h.hp h0.nx ⟨h0.hp, h0.nx, []⟩ (.agg cs) = some (.agg cs, ⟨h0.hp, h0.nx, []⟩) := fun cs hf => by
    show mvWrap (fun l => Value.agg l.toArray) (mvCells h.hp h0.nx cs.toList ⟨h0.hp, h0.nx, []⟩) = _
    rw [mvCells_flat hf]
    rfl
  have htup : ∀ cs : Array Value, flatL cs.toList = true → mvAll h.hp h0.nx ⟨h0.hp, h0.nx, []⟩ (.tuple cs) = some (.tuple cs, ⟨h0.hp, h0.nx, []⟩) := fun cs hf => by
    show mvWrap (fun l => Value.tuple l.toArray) (mvParts h.hp h0.nx cs.toList ⟨h0.hp, h0.nx, []⟩) = _
    rw [mvParts_flat hf]
    rfl
  cases v with
  | agg cs => exact clrL_eq (hagg cs)
  | tuple vs => exact clrL_eq (htup vs)
  | _ => rfl
theorem clrK_eq (h0 : Hs) (v : Value) (h : Hs) : clrK h0 v h = clear1 h0 v h (Nat.blt h.lo h0.nx) := by
  unfold clrK
  have hb : Nat.blt h.lo h0.nx = !(Nat.ble h0.nx h.lo) := by
    show Nat.ble (h.lo + 1) h0.nx = _
    rw [Bool.eq_iff_iff]
    simp only [Bool.not_eq_true', Nat.ble_eq, ← Bool.not_eq_true]
    omega
  rw [hb]
  cases Nat.ble h0.nx h.lo with
  | true => exact clrV_eq h0 v h
  | false =>
    show Bool.rec (motive := fun _ => An) (some (.val v ⟨h.hp, h.nx, h.lo⟩)) (some (.val v ⟨h.hp, h.nx, h0.lo⟩)) (Nat.ble h0.lo h.lo) = some (.val v ⟨h.hp, h.nx, minN h0.lo h.lo⟩)
    unfold minN
    cases Nat.ble h0.lo h.lo <;> rfl
theorem fin_eq (h0 : Hs) (rs : List GRes) (fr : Fr) (h : Hs) : fin h0 rs fr h = clearUp h0 (packR h (resV ⟨fr, []⟩ h rs)) := by
  unfold fin
  cases ht : tmpsR rs with
  | none => rfl
  | some xs =>
    rw [tmpsR_res ht, packR_V]
    exact clrK_eq h0 _ h
theorem unl_some {o : Out} : ∀ {ps : List (Option (List Bool))} {args : List Value} {fr : Fr} {K : Fr → An}, unl ps args fr K = some o → K (enterF args ps fr) = some o := by
  intro ps
  induction ps with
  | nil => intro args fr K h; cases args <;> exact h
  | cons p ps ih =>
    intro args fr K h
    cases args with
    | nil => cases h
    | cons v vs => exact ih (args := vs) (fr := put p v fr) h

theorem KF_FF {f : FuncId} {g : KFn} (h : KF P f = some g) : ∃ g', FF P f = some g' := by
  unfold KF at h
  unfold FF
  cases hd : P.funcs.toList.drop f with
  | nil => rw [hd] at h; cases h
  | cons fn rest =>
    rw [hd] at h
    simp only [kfnF, gfn] at h ⊢
    cases hb : fn.body with
    | none => rw [hb] at h; cases h
    | some body =>
      rw [hb] at h
      simp only [kfnAt, gfnAt] at h ⊢
      generalize resNeed fn.results.toList (codeNeed body []) = sl at h ⊢
      cases ha : allLt fn.ntmps sl with
      | false => rw [ha] at h; cases h
      | true =>
        rw [ha] at h
        cases hg : gres P sl fn.results.toList with
        | none => rw [hg] at h; cases h
        | some gs => exact ⟨_, rfl⟩

set_option maxHeartbeats 1000000 in
/-- A CALL -/
theorem callT_ok (hm : P.follows .mixedOrders = true) (hN : Named P) (G : Good P (toRn R)) (hcall : ∀ f args v h h', toRn R (.call f args) .e h = some (.val v h') → ∃ g, FF P f = some g) {F : Nat}
    (f : FuncId) (args : List Value) (args' : Array Value) (v : Value) (h h' : Hs) (B : Nat) (ρ : Ren) (w : World) (hr : callT P F R f args h = some (.val v h')) (hl : VL ρ args args'.toList) (Rl : HR B ρ h w) :
    Calls P f args' w (fun e w' => ∃ v' ρ', e = .returned v' ∧ VR ρ' v v' ∧ St B ρ h w ρ' h' w') := by
  unfold callT at hr
  cases hkf : KF P f with
  | none => rw [hkf] at hr; cases hr
  | some g =>
    rw [hkf] at hr
    simp only at hr
    unfold KF at hkf
    cases hd : P.funcs.toList.drop f with
    | nil => rw [hd] at hkf; cases hkf
    | cons fn rest =>
      rw [hd] at hkf
      have hf : P.funcs[f]? = some fn := by
        have : (P.funcs.toList.drop f)[0]? = some fn := by rw [hd]; rfl
        simpa using this
      simp only [kfnF] at hkf
      cases hb : fn.body with
      | none => rw [hb] at hkf; cases hkf
      | some body =>
        rw [hb] at hkf
        simp only at hkf
        generalize resNeed fn.results.toList (codeNeed body []) = sl at hkf
        unfold kfnAt at hkf
        cases hal : allLt fn.ntmps sl with
        | false => rw [hal] at hkf; cases hkf
        | true =>
          rw [hal] at hkf
          cases hgr : gres P sl fn.results.toList with
          | none => rw [hgr] at hkf; cases hkf
          | some gs =>
            rw [hgr] at hkf
            simp only [Option.some.injEq] at hkf
            subst hkf
            have hr2 := unl_some (K := fun fr => enK h (fun h1 => cev R F (kcode P fn.ntmps sl body) fr h1 (fin h gs) (fin h gs) (fun _ _ _ => none))) hr
            have hr3 : cev R F (kcode P fn.ntmps sl body) (enterF args (parsFrom sl (fn.params.size + fn.nfree) 0) .e) ⟨h.hp, h.nx, h.nx⟩ (fin h gs) (fin h gs) (fun _ _ _ => none) = some (.val v h') := hr2
            have Rl2 : HR B ρ ⟨h.hp, h.nx, h.nx⟩ w := ⟨Rl.base, Rl.dom, Rl.has, Rl.inj⟩
            have L : FrR ρ sl fn.ntmps (enterF args (parsFrom sl (fn.params.size + fn.nfree) 0) .e) (args' ++ Array.replicate (fn.ntmps - args'.size) undef) := by
              refine ⟨fun t p hp => ?_, by simp; omega, allLt_mem hal⟩
              rw [enter_frame args _ 0 .e t p hp]
              have hal : args.length = args'.size := by simpa using hl.1
              by_cases hin : 0 ≤ t ∧ t < 0 + (fn.params.size + fn.nfree) ∧ t < 0 + args.length
              · rw [if_pos hin]
                have ht : t < args.length := by omega
                have ht' : t < args'.toList.length := by rw [← hl.1]; exact ht
                rw [Nat.sub_zero, List.getElem?_eq_getElem ht]
                have : (args' ++ Array.replicate (fn.ntmps - args'.size) undef).getD t undef = args'.toList[t] := by
                  rw [Array.getD_eq_getD_getElem?, Array.getElem?_append_left (by simpa using ht')]
                  have h9 : t < args'.size := by simpa using ht'
                  simp [h9]
                rw [this]
                exact hl.2 t _ _ (List.getElem?_eq_getElem ht) (List.getElem?_eq_getElem ht')
              · rw [if_neg hin]
                rw [Tr.getp_e]
                exact .dunno _
            have done : ∀ (fr2 : Fr) (h2 : Hs) (a1 : Act) (w1 : World) (ρ1 : Ren), fin h gs fr2 h2 = some (.val v h') → FrR ρ1 sl fn.ntmps fr2 a1.tmps → St B ρ ⟨h.hp, h.nx, h.nx⟩ w ρ1 h2 w1 →
                ∃ v', (results fn a1.tmps).run P w1 = .ok v' w1 ∧ ∃ v'' ρ', Ending.returned v' = .returned v'' ∧ VR ρ' v v'' ∧ St B ρ h w ρ' h' w1 := by
              intro fr2 h2 a1 w1 ρ1 hfin L1 s1
              rw [fin_eq] at hfin
              cases hrv : resV ⟨fr2, []⟩ h2 gs with
              | none => rw [hrv] at hfin; cases hfin
              | some vs =>
                rw [hrv, packR_V] at hfin
                obtain ⟨v1, h1, hlv, hcl⟩ := clearUp_ok Rl hfin
                simp only [Option.some.injEq, Out.val.injEq] at hlv
                obtain ⟨rfl, rfl⟩ := hlv
                obtain ⟨vs', q1, q2⟩ := resV_run (P := P) L1 s1.hr fn.results.toList gs vs hgr hrv
                have hmr : (results fn a1.tmps).run P w1 = .ok (if hh : vs'.toArray.size = 1 then vs'.toArray[0] else .tuple vs'.toArray) w1 := by
                  have hfun : results fn a1.tmps = (do let vs ← fn.results.mapM (resRun a1.tmps); pure (if h : vs.size = 1 then vs[0] else .tuple vs)) := rfl
                  rw [hfun, Array.mapM_eq_mapM_toList]
                  simp only [Sem.run_bind, Sem.run_map, q1, Result.andThen_ok, Sem.run_pure]
                have hV : ∃ v', (results fn a1.tmps).run P w1 = .ok v' w1 ∧ VR ρ1 (packV vs) v' := by
                  cases vs with
                  | nil =>
                    have := q2.nil_left
                    subst this
                    exact ⟨_, hmr, .tuple #[] #[] rfl (fun i a => by simp at a)⟩
                  | cons u us =>
                    obtain ⟨y, ys, rfl, r1, r2⟩ := q2.head
                    cases us with
                    | nil =>
                      have := r2.nil_left
                      subst this
                      exact ⟨y, hmr, r1⟩
                    | cons u2 us2 =>
                      obtain ⟨y2, ys2, rfl, r3, r4⟩ := r2.head
                      refine ⟨.tuple (y :: y2 :: ys2).toArray, ?_, VR.tuple_of q2⟩
                      rw [hmr, dif_neg (by simp)]
                obtain ⟨v', m1, m2⟩ := hV
                obtain ⟨ρ2, n1, n2⟩ := hcl ρ1 w1 v' s1 m2
                exact ⟨v', m1, v', ρ2, rfl, n1, n2⟩
            refine calls_of_wp hf hb (cev_wp hm hN G hcall body _ _ _ _ _ B ρ ⟨_, []⟩ w _ hr3 L Rl2 (fun fr2 h2 a1 w1 ρ1 q A1 L1 s1 d1 => ?_) (fun fr2 h2 a1 w1 ρ1 q L1 s1 d1 => ?_) (fun id fr2 h2 a1 w1 ρ1 q A1 L1 s1 d1 => by cases q))
            · obtain ⟨v', m1, m2⟩ := done fr2 h2 a1 w1 ρ1 q L1 s1
              exact ⟨d1, v', m1, m2⟩
            · obtain ⟨v', m1, m2⟩ := done fr2 h2 a1 w1 ρ1 q L1 s1
              exact ⟨d1, v', m1, m2⟩
end

/-- a table is right: each of its entries says no more than the program's text -/
def TabOk (P : Program) (F : Nat) (tab : RnK → RnK) : Prop := ∀ (R : RnK) (f : FuncId) (args : List Value) (h : Hs) (o : Out), tab R f args h = some o → callT P F R f args h = some o

/-- ALL RUNS -/
theorem runK_ok {P : Program} (hm : P.follows .mixedOrders = true) (hN : Named P) {F : Nat} {tab : RnK → RnK} (hT : TabOk P F tab) : ∀ (d : Nat) (f : FuncId) (args : List Value) (args' : Array Value) (v : Value) (h h' : Hs) (B : Nat) (ρ : Ren) (w : World), runK tab d f args h = some (.val v h') → VL ρ args args'.toList → HR B ρ h w →
    Calls P f args' w (fun e w' => ∃ v' ρ', e = .returned v' ∧ VR ρ' v v' ∧ St B ρ h w ρ' h' w') := by
  intro d
  induction d with
  | zero => intro f args args' v h h' B ρ w hr; cases hr
  | succ d ih =>
    intro f args args' v h h' B ρ w hr hl Rl
    have hr : tab (runK tab d) f args h = some (.val v h') := hr
    refine callT_ok hm hN (good_toRn ih) (fun f args v h h' hh => ?_) f args args' v h h' B ρ w (hT _ _ _ _ _ hr) hl Rl
    have hh : runK tab d f args h = some (.val v h') := hh
    cases d with
    | zero => cases hh
    | succ d =>
      have hh : tab (runK tab d) f args h = some (.val v h') := hh
      have hh := hT _ _ _ _ _ hh
      unfold callT at hh
      cases hg : KF P f with
      | none => rw [hg] at hh; cases hh
      | some g => exact KF_FF hg

/-- a closed call -/
theorem runK_calls {P : Program} (hm : P.follows .mixedOrders = true) (hN : Named P) {F : Nat} {tab : RnK → RnK} (hT : TabOk P F tab) {d : Nat} {f : FuncId} {v : Value} {h' : Hs} (hr : runK tab d f [] ⟨.e, 0, 0⟩ = some (.val v h')) (w : World) :
    Calls P f #[] w (fun e w' => ∃ v' ρ', e = .returned v' ∧ VR ρ' v v' ∧ Below w.heap.size w w') := by
  have R0 : HR w.heap.size (fun _ => none) ⟨.e, 0, 0⟩ w := ⟨Nat.le_refl _, fun _ _ => rfl, (fun id b hb => by rw [Tr.get_e] at hb; cases hb), (fun id id' b b' H H' hb => by rw [Tr.get_e] at hb; cases hb)⟩
  refine (runK_ok hm hN hT d f [] #[] v _ h' w.heap.size _ w hr VL.nil R0).mono fun e w' hh => ?_
  obtain ⟨v', ρ', h1, h2, h3⟩ := hh
  exact ⟨v', ρ', h1, h2, h3.below⟩
/-! ### tables: functions printed out -/
abbrev FnK := RnK → Nat → List Value → Hs → An
def AllOk (P : Program) : List (Nat × FnK) → Prop
  | [] => True
  | e :: es => (∀ R N args h, e.2 R N args h = callT P N R e.1 args h) ∧ AllOk P es
noncomputable def mkTab (es : List (Nat × FnK)) : Tr FnK := List.rec (motive := fun _ => Tr FnK) .e (fun p _ t => Tr.setK p.2 t p.1) es
theorem mkTab_ok {P : Program} {f : Nat} {g : FnK} : ∀ {es : List (Nat × FnK)}, AllOk P es → (mkTab es).getK f = some g → ∀ R N args h, g R N args h = callT P N R f args h := by
  intro es
  induction es with
  | nil => intro _ h; cases h
  | cons p es ih =>
    intro ha hg
    replace hg : (Tr.setK p.2 (mkTab es) p.1).getK f = some g := hg
    rw [getK_eq, setK_eq, Tr.get, Tr.set, Tr.getp_setp] at hg
    by_cases e : pth p.1 = pth f
    · rw [if_pos e] at hg
      injection hg with hg2
      have := pth_inj e
      subst this
      rw [← hg2]
      exact ha.1
    · rw [if_neg e] at hg
      exact ih ha.2 (by rw [getK_eq]; exact hg)
noncomputable def tabOf (P : Program) (F : Nat) (es : List (Nat × FnK)) : RnK → RnK := fun R f args h => Option.rec (motive := fun _ => An) (callT P F R f args h) (fun g => g R F args h) ((mkTab es).getK f)
/-- a table whose entries are equal to the program's text -/
theorem tabOk_of {P : Program} {F : Nat} {T : FuncId → Option (RnK → Nat → List Value → Hs → An)} (hT : ∀ f g, T f = some g → ∀ R args h, g R F args h = callT P F R f args h) :
    TabOk P F (fun R f args h => Option.rec (motive := fun _ => An) (callT P F R f args h) (fun g => g R F args h) (T f)) := by
  intro R f args h o hh
  replace hh : Option.rec (motive := fun _ => An) (callT P F R f args h) (fun g => g R F args h) (T f) = some o := hh
  cases hf : T f with
  | none => rw [hf] at hh; exact hh
  | some g => rw [hf] at hh; rw [← hT f g hf R args h]; exact hh
theorem tabOf_ok {P : Program} {F : Nat} {es : List (Nat × FnK)} (h : AllOk P es) : TabOk P F (tabOf P F es) :=
  tabOk_of (T := fun f => (mkTab es).getK f) fun _ _ hg R args hh => mkTab_ok h hg R F args hh
end Go.Gev

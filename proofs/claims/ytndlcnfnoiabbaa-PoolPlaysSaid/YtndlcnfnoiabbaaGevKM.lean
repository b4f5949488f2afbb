/- The fast evaluator's runs are the model's: code, calls, all runs. -/
import Derived.Test.YtndlcnfnoiabbaaGevWI
namespace Go.Gev
open Go.RowKit
section
variable {P : Program}
theorem doOp_val {R : Rn} {en : En} {h h1 : Hs} {v : Value} {g : GOp} (hd : doOp R en h (fun v h => some (.val v h)) g = some (.val v h1)) (K : KV) : doOp R en h K g = K v h1 := by
 have val : ∀ x : Option Out, isVal (fun v h => some (.val v h)) x = some (.val v h1) → isVal K x = K v h1 := fun x hx => by
  cases x with
  | none => cases hx
  | some y => cases y with
   | fin e fr h1 => cases hx
   | val v h1 =>
    simp only [isVal, Option.some.injEq, Out.val.injEq] at hx
    obtain ⟨rfl, rfl⟩ := hx
    rfl
 cases g with
 | fn g =>
  simp only [doOp] at hd ⊢
  cases hg : g en h with
  | none => rw [hg] at hd; cases hd
  | some p =>
   rw [hg] at hd
   simp only [after, Option.some.injEq, Out.val.injEq] at hd
   obtain ⟨rfl, rfl⟩ := hd
   rfl
 | call f args => exact val _ hd
 | callv f args => exact val _ hd
theorem dStep_of_rec {R : Rn} {fr : Fr} {h0 : Hs} {d : DOper} {loc : List Value} {hist : List (Nat × Nat)} {h h' : Hs} {v : Value} {K : Value → Hs → An} {o : Out} (hd : DRec R fr h0 d loc hist h v h') (hk : K v h' = some o) : dStep R fr h0 loc hist h d K = some o := by
 unfold dStep
 rcases hd with ⟨hg, rfl, rfl⟩ | ⟨hg, h1, hop, hf, rfl⟩
 ·rw [hg]; exact hk
 ·rw [hg]
  simp only [dGo]
  rw [doOp_val hop, hf]
  exact hk
theorem runD_indep {R : Rn} {fr : Fr} {h0 : Hs} {K : List Value → Hs → An} {out : Out} : ∀ (ops : List DOper) (loc : List Value) (hist : List (Nat × Nat)) (h : Hs), runD R fr h0 K ops loc hist h = some out →
 ∃ L h', K L h' = some out ∧ ∀ (K' : List Value → Hs → An) (o' : Out), K' L h' = some o' → runD R fr h0 K' ops loc hist h = some o' := by
 intro ops
 induction ops with
 | nil => intro loc hist h hh; exact ⟨loc, h, hh, fun _ _ hk => hk⟩
 | cons d rest ih =>
  intro loc hist h hh
  rw [runD_cons] at hh
  obtain ⟨v, h1, hrec, hk⟩ := dStep_rec hh
  obtain ⟨L, h', e1, e2⟩ := ih _ _ _ hk
  exact ⟨L, h', e1, fun K' o' hk' => by rw [runD_cons]; exact dStep_of_rec hrec (e2 K' o' hk')⟩
theorem Agr.putAll {ms : List (List Bool)} : ∀ (ps : List (Option (List Bool))) (vs : List Value) (fr : Fr), (∀ p, some p ∈ ps → p ∈ ms) → Agr ms fr (putAll ps vs fr) := by
 intro ps
 induction ps with
 | nil => intro vs fr _; exact Agr.refl _ _
 | cons p ps ih =>
  intro vs fr hp
  cases vs with
  | nil => exact Agr.refl _ _
  | cons v vs => exact (Agr.put fun q hq => hp q (by rw [hq]; exact List.mem_cons_self)).trans (ih vs _ fun q hq => hp q (List.mem_cons_of_mem _ hq))
theorem ptsOf_mem {sl : List Nat} {p : List Bool} : ∀ {os : List Oper}, some p ∈ ptsOf sl os → ∃ o t, o ∈ os ∧ o.dst = some t ∧ slot sl t = some p := by
 intro os
 induction os with
 | nil => intro h; cases h
 | cons o os ih =>
  intro h
  simp only [ptsOf] at h
  rcases List.mem_cons.1 h with h | h
  ·cases hd : o.dst with
   | none => rw [hd] at h; cases h
   | some t => rw [hd] at h; exact ⟨o, t, List.mem_cons_self, hd, h.symm⟩
  ·obtain ⟨o', t, h1, h2, h3⟩ := ih h
   exact ⟨o', t, List.mem_cons_of_mem _ h1, h2, h3⟩
variable {R : RnK}
def mark (D : Nat) : Deferred := { target := .collected D, args := #[] }
def Dq (n0 : Nat) (ρ : Ren) (h : Hs) (w : World) (ds : List Deferred) : Prop := n0 ≤ w.heap.size ∧ ∃ Ds : List Nat, ds = Ds.map mark ∧ Ds.Nodup ∧
 ∀ D ∈ Ds, n0 ≤ D ∧ D < w.heap.size ∧ w.heap[D]? = some (.deferred (some [])) ∧ ∀ id b H, h.hp.get id = some b → isRw b = true → ρ id = some H → H.blk ≠ D
theorem Dq.nil {n0 : Nat} {ρ : Ren} {h : Hs} {w : World} (hn : n0 ≤ w.heap.size) : Dq n0 ρ h w [] := ⟨hn, [], rfl, List.nodup_nil, fun D hD => by cases hD⟩
theorem Dq.step {n0 B : Nat} {ρ ρ' : Ren} {h h' : Hs} {w w' : World} {ds : List Deferred} (d : Dq n0 ρ h w ds) (S : St B ρ h w ρ' h' w') : Dq n0 ρ' h' w' ds := by
 obtain ⟨hn, Ds, e, hnd, hD⟩ := d
 refine ⟨Nat.le_trans hn S.size, Ds, e, hnd, fun D hm => ?_⟩
 obtain ⟨q1, q2, q3, q4⟩ := hD D hm
 refine ⟨q1, Nat.lt_of_lt_of_le q2 S.size, (S.frame D q2 fun id b H hb hr hH _ => q4 id b H hb hr hH).trans q3, fun id b H hb hr hH => ?_⟩
 by_cases hid : id < h.nx
 ·obtain ⟨b0, g1, g2, _⟩ := S.gone id b hb hid
  exact q4 id b0 H g1 (g2.trans hr) ((S.old id hid).symm.trans hH)
 ·rcases S.fresh id H (by omega) hH with g | ⟨id0, b0, H0, g1, g2, g3, _, g5⟩
  ·omega
  ·rw [← g5]; exact q4 id0 b0 H0 g1 g2 g3
def CTOk (P : Program) (CT : CTy) : Prop := ∀ (R' : RnK) (ρ1 : Ren), Good P (toRn R') → HC P (toRn R') → YOk P R' ρ1 →
 ∀ (g : FuncId) (args : List Value) (args' : Array Value) (v : Value) (h h' : Hs) (B : Nat) (ρ : Ren) (w : World), CT R' g args h = some (.val v h') → VL ρ args args'.toList → HR B ρ h w → ρ1.le ρ →
  (∃ fg, FF P g = some fg) ∧ Calls P g args' w (fun e w' => ∃ v' ρ', e = .returned v' ∧ VR ρ' v v' ∧ St B ρ h w ρ' h' w')
theorem nilC_some {α : Type} {l : List α} {a : An} {o : Out} (h : nilC l a = some o) : l = [] ∧ a = some o := by
 cases l with
 | nil => exact ⟨rfl, h⟩
 | cons x xs => cases h
theorem unE_some {ρ : Ren} {sl : List Nat} {N : Nat} {o : Out} {K : Fr → An} : ∀ (ps : List Tmp) (xs : List Value) (fr : Fr) (T : Array Value) (xs' : List Value), unE (ps.map (slot sl)) xs fr K = some o → VL ρ xs xs' → FrR ρ sl N fr T →
 xs.length = ps.length ∧ ∃ fr', K fr' = some o ∧ FrR ρ sl N fr' ((ps.zip xs').foldl (fun t (p, v) => t.setIfInBounds p v) T) := by
 intro ps
 induction ps with
 | nil =>
  intro xs fr T xs' h hv L
  obtain ⟨rfl, h⟩ := nilC_some h
  exact ⟨rfl, fr, h, L⟩
 | cons p ps ih =>
  intro xs fr T xs' h hv L
  cases xs with
  | nil => cases h
  | cons v vs =>
   obtain ⟨v', vs', rfl, h1, h2⟩ := hv.head
   have h : unE (ps.map (slot sl)) vs (put (slot sl p) v fr) K = some o := h
   have L2 : FrR ρ sl N (put (slot sl p) v fr) (T.setIfInBounds p v') := by
    refine ⟨fun t q hq => ?_, by simpa using L.size, L.lt⟩
    rw [getD_set]
    by_cases hpt : p = t
    ·subst hpt
     have hlt : p < T.size := Nat.lt_of_lt_of_le (L.lt p (slot_mem hq)) L.size
     rw [if_pos ⟨rfl, hlt⟩, hq]
     simp only [Gev.put, Tr.getp_setp, if_true, vOr]
     exact h1
    ·rw [if_neg (fun e => hpt e.1)]
     cases hs : slot sl p with
     | none => exact L.fr t q hq
     | some q2 =>
      simp only [Gev.put]
      rw [Tr.getp_setp, if_neg (fun e2 => hpt (slot_inj hs hq e2))]
      exact L.fr t q hq
   obtain ⟨g1, fr', g2, g3⟩ := ih vs _ _ vs' h h2 L2
   exact ⟨by simp [g1], fr', g2, g3⟩
theorem getLp_some {h : Hs} {l : Nat} {F : Nat → An} {o : Out} (hh : getLp h l F = some o) : ∃ st, h.hp.get l = some (.lp st) ∧ F st = some o := by
 obtain ⟨B, h1, h2⟩ := getB_some hh
 cases B with
 | lp st => exact ⟨st, h1, h2⟩
 | row => cases h2
 | mp => cases h2
 | it => cases h2
theorem loF_eq' (lo b : Nat) (F : Nat → An) : loF lo b F = F (minN lo b) := by
 unfold loF minN
 cases Nat.ble lo b <;> rfl
theorem setLp_eq (h : Hs) (l st : Nat) (F : Hs → An) : setLp h l st F = F ⟨h.hp.set l (some (.lp st)), h.nx, minN h.lo l⟩ := by
 show loF h.lo l (fun lo' => F ⟨Tr.setK (.lp st) h.hp l, h.nx, lo'⟩) = _
 rw [loF_eq', setK_eq]
theorem delLp_eq (h : Hs) (l : Nat) (F : Hs → An) : delLp h l F = F ⟨h.hp.set l none, h.nx, minN h.lo l⟩ := by
 show loF h.lo l (fun lo' => F ⟨Tr.set h.hp l none, h.nx, lo'⟩) = _
 rw [loF_eq']
theorem lp_host {B : Nat} {ρ : Ren} {h : Hs} {w : World} (Rl : HR B ρ h w) {l st : Nat} (hl : h.hp.get l = some (.lp st)) {H : Host} (hH : ρ l = some H) {r : Loop} (hr : H.rc = some r) : B ≤ H.blk ∧ w.heap[H.blk]? = some (.loop { r with state := stOf st, pending := pdOf st }) := by
 obtain ⟨H', r', h1, h2, h3, h4⟩ := Rl.has l _ hl
 rw [hH] at h1
 injection h1 with h1
 subst h1
 rw [hr] at h3
 injection h3 with h3
 subst h3
 exact ⟨h2, h4⟩
theorem lp_set {B : Nat} {ρ : Ren} {h : Hs} {w : World} (Rl : HR B ρ h w) {l st : Nat} (hl : h.hp.get l = some (.lp st)) {H : Host} (hH : ρ l = some H) {r : Loop} (hr : H.rc = some r) (st2 : Nat) :
 St B ρ h w ρ ⟨h.hp.set l (some (.lp st2)), h.nx, minN h.lo l⟩ (w.putObj H.blk (.loop { r with state := stOf st2, pending := pdOf st2 })) := by
 obtain ⟨h2, h4⟩ := lp_host Rl hl hH hr
 exact step_put (b2 := .lp st2) Rl hl rfl rfl hH h2 _ ⟨H, r, hH, h2, hr, World.putObj_heap_same (Array.getElem?_eq_some_iff.1 h4).1⟩
def Ro (P : Program) (ro : Option Nat) (CT : CTy) (c : Code) : Prop := (ro = none ∧ CTOk P CT) ∨ (CT = noCT ∧ noDef c = true)
theorem Ro.seq {ro : Option Nat} {CT : CTy} {x y : Code} (h : Ro P ro CT (.seq x y)) : Ro P ro CT x ∧ Ro P ro CT y := by
 rcases h with h | ⟨h1, h2⟩
 ·exact ⟨.inl h, .inl h⟩
 ·obtain ⟨q1, q2⟩ := andB_true h2
  exact ⟨.inr ⟨h1, q1⟩, .inr ⟨h1, q2⟩⟩
theorem chan_noVR {ρ : Ren} {k : Nat} {v : Value} : ¬ VR ρ (.chan (some k)) v := fun h => by cases h
theorem chanR_some {v : Value} {F : Nat → An} {o : Out} (h : chanR v none F = some o) : ∃ k, v = .chan (some k) ∧ F k = some o := by
 cases v <;> try cases h
 rename_i c
 cases c with
 | none => cases h
 | some k => exact ⟨k, rfl, h⟩
theorem ifBn_some {c : Bool} {x : An} {o : Out} (h : ifB c x none = some o) : c = true ∧ x = some o := by
 cases c with
 | true => exact ⟨rfl, h⟩
 | false => cases h
theorem extR_yid {l : Nat} {hd : List Value → Hs → An} {R : RnK} {args : List Value} {h : Hs} {o : Out} (hh : extR l hd R YID args h = some o) : ∃ xs, args = .chan (some l) :: xs ∧ hd xs h = some o := by
 have hh : (List.rec (motive := fun _ => An) none (fun a xs _ => chanR a none fun k => ifB (Nat.beq k l) (hd xs h) none) args : An) = some o := hh
 cases args with
 | nil => cases hh
 | cons a xs =>
  obtain ⟨k, hk1, hh2⟩ := chanR_some hh
  obtain ⟨hk, hh3⟩ := ifBn_some hh2
  have := Nat.eq_of_beq_eq_true hk
  subst this
  exact ⟨xs, by rw [hk1], hh3⟩
theorem extR_some {l : Nat} {hd : List Value → Hs → An} {R : RnK} {f : FuncId} {args : List Value} {h : Hs} {o : Out} (hh : extR l hd R f args h = some o) : (∃ k xs, args = .chan (some k) :: xs) ∨ R f args h = some o := by
 unfold extR at hh
 cases hb : Nat.beq f 1000000000 with
 | false => rw [hb] at hh; exact .inr hh
 | true =>
  have := Nat.eq_of_beq_eq_true hb
  subst this
  obtain ⟨xs, h1, _⟩ := extR_yid (show extR l hd R YID args h = some o from by unfold extR; rw [show YID = 1000000000 from rfl]; exact hh)
  exact .inl ⟨l, xs, h1⟩
theorem endR_ok {B : Nat} {ρ : Ren} {h4 h' : Hs} {w4 : World} {l st' : Nat} {bb : Bool} {v : Value} {H : Host} {r : Loop} {jump : Option Code} (q : endR l st' bb h4 = some (.val v h')) (Rl : HR B ρ h4 w4) (hH : ρ l = some H) (hr : H.rc = some r)
 (hj : pdOf st' = jump) (hs : stOf st' = if jump.isNone then .ready else .done) (hb : bb = jump.isNone) : ∃ w5, (Instr.endRound H.blk jump).run P w4 = .ok (.bool jump.isNone) w5 ∧ v = .bool jump.isNone ∧ St B ρ h4 w4 ρ h' w5 := by
 obtain ⟨st, hst, q⟩ := getLp_some (show getLp h4 l _ = some (.val v h') from q)
 cases st with
 | zero => cases q
 | succ n => cases n with
  | succ n => cases q
  | zero =>
   have q := (setLp_eq h4 l st' _).symm.trans q
   simp only [Option.some.injEq, Out.val.injEq] at q
   obtain ⟨rfl, rfl⟩ := q
   obtain ⟨_, hh⟩ := lp_host Rl hst hH hr
   have s := lp_set Rl hst hH hr st'
   rw [hs, hj] at s
   exact ⟨_, run_endRound jump hh, by rw [hb], s⟩
theorem ext_good {l : Nat} {hd : List Value → Hs → An} (G : Good P (toRn R)) : Good P (toRn (extR l hd R)) := good_toRn fun f args args' v h h' B ρ w hr hl Rl => by
 rcases extR_some hr with ⟨k, xs, rfl⟩ | hr
 ·obtain ⟨y, ys, _, hv, _⟩ := hl.head
  exact absurd hv chan_noVR
 ·exact G.call f args args' v h h' B ρ w hr hl Rl
theorem ext_hc {l : Nat} {hd : List Value → Hs → An} (hc : HC P (toRn R)) : HC P (toRn (extR l hd R)) := fun ρ f args args' v h h' hl hr => by
 have hr : extR l hd R f args h = some (.val v h') := hr
 rcases extR_some hr with ⟨k, xs, rfl⟩ | hr
 ·obtain ⟨y, ys, _, hv, _⟩ := hl.head
  exact absurd hv chan_noVR
 ·exact hc ρ f args args' v h h' hl hr
set_option maxHeartbeats 2000000 in
theorem cev_wp (hm : P.follows .mixedOrders = true) (hN : Named P) (G : Good P (toRn R)) (hcall : HC P (toRn R)) {ρz : Ren} (hY : YOk P R ρz) {F : Nat} {N : Nat} {sl : List Nat} : ∀ (c : Code) (out : Out) (ro : Option Nat) (CT : CTy) (n0 : Nat) (fr : Fr) (h : Hs) (Kn Kr : Fr → Hs → An) (Ke : Nat → Fr → Hs → An) (B : Nat) (ρ : Ren) (a : Act) (w : World) (Q : Exit → Act → World → Prop),
 Ro P ro CT c → cev R F (kcode P N sl c) CT fr h Kn Kr Ke = some out → FrR ρ sl N fr a.tmps → HR B ρ h w → ρz.le ρ → Dq n0 ρ h w a.defers →
 (∀ fr' h' a' w' ρ', Kn fr' h' = some out → Agr (msOf sl (mods sl c)) fr fr' → FrR ρ' sl N fr' a'.tmps → St B ρ h w ρ' h' w' → Dq n0 ρ' h' w' a'.defers → Q .normal a' w') →
 (∀ fr' h' a' w' ρ', Kr fr' h' = some out → FrR ρ' sl N fr' a'.tmps → St B ρ h w ρ' h' w' → Dq n0 ρ' h' w' a'.defers → Q .ret a' w') →
 (∀ id fr' h' a' w' ρ', Ke id fr' h' = some out → Agr (msOf sl (mods sl c)) fr fr' → FrR ρ' sl N fr' a'.tmps → St B ρ h w ρ' h' w' → Dq n0 ρ' h' w' a'.defers → Q (.exit id) a' w') → c.wpIn (FW ro) 0 P Q a w := by
 have mono : ∀ (x y : Nat), (∀ i, x.testBit i = true → y.testBit i = true) → ∀ p, p ∈ msOf sl x → p ∈ msOf sl y := fun x y h p hp => msFrom_mono h _ p hp
 intro c
 induction c with
 | skip =>
  intro out ro CT n0 fr h Kn Kr Ke B ρ a w Q hro hr L Rl hz hD hn hk he
  exact wpIn_skip (hn fr h a w ρ hr (Agr.refl _ _) L (St.refl Rl) hD)
 | ret =>
  intro out ro CT n0 fr h Kn Kr Ke B ρ a w Q hro hr L Rl hz hD hn hk he
  exact wpIn_ret (hk fr h a w ρ hr L (St.refl Rl) hD)
 | exit id =>
  intro out ro CT n0 fr h Kn Kr Ke B ρ a w Q hro hr L Rl hz hD hn hk he
  exact wpIn_exit (he id fr h a w ρ hr (Agr.refl _ _) L (St.refl Rl) hD)
 | seq x y ix iy =>
  intro out ro CT n0 fr h Kn Kr Ke B ρ a w Q hro hr L Rl hz hD hn hk he
  have hr : cev R F (kcode P N sl x) CT fr h (fun fr h => cev R F (kcode P N sl y) CT fr h Kn Kr Ke) Kr Ke = some out := hr
  have mx := mono (mods sl x) (mods sl (.seq x y)) fun i => lor_left
  have my := mono (mods sl y) (mods sl (.seq x y)) fun i => lor_right
  refine wpIn_seq (ix out ro CT n0 fr h _ Kr Ke B ρ a w _ hro.seq.1 hr L Rl hz hD (fun fr1 h1 a1 w1 ρ1 hr1 A1 L1 s1 d1 => ?_) (fun fr1 h1 a1 w1 ρ1 hr1 L1 s1 d1 => hk fr1 h1 a1 w1 ρ1 hr1 L1 s1 d1)
   (fun id fr1 h1 a1 w1 ρ1 hr1 A1 L1 s1 d1 => he id fr1 h1 a1 w1 ρ1 hr1 (A1.mono mx) L1 s1 d1))
  show y.wpIn (FW ro) 0 P Q a1 w1
  exact iy out ro CT n0 fr1 h1 Kn Kr Ke B ρ1 a1 w1 Q hro.seq.2 hr1 L1 s1.hr (Ren.le_trans hz s1.le) d1 (fun fr2 h2 a2 w2 ρ2 q A2 L2 s2 d2 => hn fr2 h2 a2 w2 ρ2 q ((A1.mono mx).trans (A2.mono my)) L2 (St.trans Rl s1 s2) d2)
   (fun fr2 h2 a2 w2 ρ2 q L2 s2 d2 => hk fr2 h2 a2 w2 ρ2 q L2 (St.trans Rl s1 s2) d2)
   (fun id fr2 h2 a2 w2 ρ2 q A2 L2 s2 d2 => he id fr2 h2 a2 w2 ρ2 q ((A1.mono mx).trans (A2.mono my)) L2 (St.trans Rl s1 s2) d2)
 | cond q x y ix iy =>
  intro out ro CT n0 fr h Kn Kr Ke B ρ a w Q hro hr L Rl hz hD hn hk he
  have hro2 : Ro P ro CT x ∧ Ro P ro CT y := Ro.seq (x := x) (y := y) (by
   rcases hro with g | ⟨g1, g2⟩
   ·exact .inl g
   ·exact .inr ⟨g1, g2⟩)
  simp only [kcode] at hr
  cases hx : gx (plainCx sl []) q with
  | none => rw [hx] at hr; cases hr
  | some q' =>
   rw [hx] at hr
   have mx := mono (mods sl x) (mods sl (.cond q x y)) fun i => lor_left
   have my := mono (mods sl y) (mods sl (.cond q x y)) fun i => lor_right
   have hr : cnd (ev ⟨fr, []⟩ q') (cev R F (kcode P N sl x) CT fr h (fun fr' h' => app (msOf sl (mods sl (.cond q x y))) (lam (msOf sl (mods sl (.cond q x y))) Kn fr) fr' h') Kr Ke)
    (cev R F (kcode P N sl y) CT fr h (fun fr' h' => app (msOf sl (mods sl (.cond q x y))) (lam (msOf sl (mods sl (.cond q x y))) Kn fr) fr' h') Kr Ke) = some out := hr
   obtain ⟨t, ht, hr⟩ := vBool_some hr
   have hv := gx_VR (a := a) L.en hx
   rw [ht] at hv
   have hq := hv.bool_inv
   have hn2 : ∀ fr' h' a' w' ρ', app (msOf sl (mods sl (.cond q x y))) (lam (msOf sl (mods sl (.cond q x y))) Kn fr) fr' h' = some out → Agr (msOf sl (mods sl (.cond q x y))) fr fr' → FrR ρ' sl N fr' a'.tmps → St B ρ h w ρ' h' w' → Dq n0 ρ' h' w' a'.defers → Q .normal a' w' := fun fr' h' a' w' ρ' hh A' L' s' d' => by
    rw [app_lam] at hh
    exact hn _ h' a' w' ρ' hh (fun p hp => by rw [upd_get, if_neg hp]) (L'.of_get A'.upd) s' d'
   cases t with
   | true => exact wpIn_cond_true hq (ix out ro CT n0 fr h _ Kr Ke B ρ a w Q hro2.1 hr L Rl hz hD (fun fr' h' a' w' ρ' hh A' => hn2 fr' h' a' w' ρ' hh (A'.mono mx)) hk (fun id fr' h' a' w' ρ' hh A' => he id fr' h' a' w' ρ' hh (A'.mono mx)))
   | false => exact wpIn_cond_false hq (iy out ro CT n0 fr h _ Kr Ke B ρ a w Q hro2.2 hr L Rl hz hD (fun fr' h' a' w' ρ' hh A' => hn2 fr' h' a' w' ρ' hh (A'.mono my)) hk (fun id fr' h' a' w' ρ' hh A' => he id fr' h' a' w' ρ' hh (A'.mono my)))
 | block id b ib =>
  intro out ro CT n0 fr h Kn Kr Ke B ρ a w Q hro hr L Rl hz hD hn hk he
  have hr : cev R F (kcode P N sl b) CT fr h (fun fr' h' => app (msOf sl (mods sl b)) (lam (msOf sl (mods sl b)) Kn fr) fr' h') Kr
   (fun id' fr' h' => Bool.rec (motive := fun _ => An) (Ke id' fr' h') (app (msOf sl (mods sl b)) (lam (msOf sl (mods sl b)) Kn fr) fr' h') (Nat.beq id' id)) = some out := hr
  have hn2 : ∀ fr' h' a' w' ρ', app (msOf sl (mods sl b)) (lam (msOf sl (mods sl b)) Kn fr) fr' h' = some out → Agr (msOf sl (mods sl b)) fr fr' → FrR ρ' sl N fr' a'.tmps → St B ρ h w ρ' h' w' → Dq n0 ρ' h' w' a'.defers → Q .normal a' w' := fun fr' h' a' w' ρ' hh A' L' s' d' => by
   rw [app_lam] at hh
   exact hn _ h' a' w' ρ' hh (fun p (hp : p ∉ msOf sl (mods sl b)) => by rw [upd_get, if_neg hp]) (L'.of_get A'.upd) s' d'
  refine wpIn_block (ib out ro CT n0 fr h _ Kr _ B ρ a w _ hro hr L Rl hz hD (fun fr' h' a' w' ρ' hh A' L' s' d' => ?_) (fun fr' h' a' w' ρ' hh L' s' d' => ?_) (fun id' fr' h' a' w' ρ' hh A' L' s' d' => ?_))
  ·exact hn2 fr' h' a' w' ρ' hh A' L' s' d'
  ·exact hk fr' h' a' w' ρ' hh L' s' d'
  ·cases hq : Nat.beq id' id with
   | true =>
    rw [hq] at hh
    have := Nat.eq_of_beq_eq_true hq
    subst this
    show Exit.inBlock _ _ (.exit _) a' w'
    simp only [Exit.inBlock, if_true]
    exact hn2 fr' h' a' w' ρ' hh A' L' s' d'
   | false =>
    rw [hq] at hh
    have hne := beq_false.1 hq
    show Exit.inBlock _ _ (.exit _) a' w'
    simp only [Exit.inBlock, if_neg hne]
    exact he id' fr' h' a' w' ρ' hh A' L' s' d'
 | loop b ib =>
  intro out ro CT n0 fr h Kn Kr Ke B ρ a w Q hro hr L Rl hz hD hn hk he
  have hr : app (msOf sl (mods sl b)) (lpT (bot (msOf sl (mods sl b))) F (fun self => lam (msOf sl (mods sl b)) (fun fx hx => cev R F (kcode P N sl b) CT fx hx (fun fr' h' => app (msOf sl (mods sl b)) self fr' h') Kr Ke) fr)) fr h = some out := hr
  have key : ∀ (n : Nat) (fr1 : Fr) (h1 : Hs) (ρ1 : Ren) (a1 : Act) (w1 : World), app (msOf sl (mods sl b)) (lpT (bot (msOf sl (mods sl b))) n (fun self => lam (msOf sl (mods sl b)) (fun fx hx => cev R F (kcode P N sl b) CT fx hx (fun fr' h' => app (msOf sl (mods sl b)) self fr' h') Kr Ke) fr)) fr1 h1 = some out →
   Agr (msOf sl (mods sl b)) fr fr1 → FrR ρ1 sl N fr1 a1.tmps → St B ρ h w ρ1 h1 w1 → Dq n0 ρ1 h1 w1 a1.defers → Code.roundsIn (FW ro) 0 P b Q n a1 w1 := by
   intro n
   induction n with
   | zero =>
    intro fr1 h1 ρ1 a1 w1 hh
    have hh : app (msOf sl (mods sl b)) (bot (msOf sl (mods sl b))) fr1 h1 = some out := hh
    rw [app_bot] at hh
    cases hh
   | succ n ihn =>
    intro fr1 h1 ρ1 a1 w1 hh A1 L1 s1 d1
    have hh : app (msOf sl (mods sl b)) (lam (msOf sl (mods sl b)) (fun fx hx => cev R F (kcode P N sl b) CT fx hx (fun fr' h' => app (msOf sl (mods sl b)) (lpT (bot (msOf sl (mods sl b))) n (fun self => lam (msOf sl (mods sl b)) (fun fx hx => cev R F (kcode P N sl b) CT fx hx (fun fr' h' => app (msOf sl (mods sl b)) self fr' h') Kr Ke) fr)) fr' h') Kr Ke) fr) fr1 h1 = some out := hh
    rw [app_lam] at hh
    have hU : Agr (msOf sl (mods sl b)) fr (upd (msOf sl (mods sl b)) fr fr1) := fun p hp => by rw [upd_get, if_neg hp]
    rw [roundsIn_succ]
    refine ib out ro CT n0 _ h1 _ Kr Ke B ρ1 a1 w1 _ hro hh (L1.of_get A1.upd) s1.hr (Ren.le_trans hz s1.le) d1 (fun fr2 h2 a2 w2 ρ2 q A2 L2 s2 d2 => ?_) (fun fr2 h2 a2 w2 ρ2 q L2 s2 d2 => ?_) (fun id fr2 h2 a2 w2 ρ2 q A2 L2 s2 d2 => ?_)
    ·show Code.roundsIn (FW ro) 0 P b Q n a2 w2
     exact ihn fr2 h2 ρ2 a2 w2 q (hU.trans A2) L2 (St.trans Rl s1 s2) d2
    ·exact hk fr2 h2 a2 w2 ρ2 q L2 (St.trans Rl s1 s2) d2
    ·exact he id fr2 h2 a2 w2 ρ2 q (hU.trans A2) L2 (St.trans Rl s1 s2) d2
  exact wpIn_loop_rounds F (key F fr h ρ a w hr (Agr.refl _ _) L (St.refl Rl) hD)
 | region id ops draw =>
  intro out ro CT n0 fr h Kn Kr Ke B ρ a w Q hro hr L Rl hz hD hn hk he
  have hdf : ro = none ∨ noDefL ops.toList = true := hro.imp (fun g => g.1) (fun g => g.2)
  cases draw with
  | false =>
   have hr : cOps R (kopers P N sl ops ops.toList []) fr [] h Kn = some out := hr
   refine wpIn_region ?_
   rw [List.range_eq_range']
   have := kOps_wp hN G hcall hY (ops := ops) hdf (df0 := a.defers) Rl hz (fr0 := fr) (Q := Q) (fun fr' h' a' w' ρ' q A' L' s' d' => hn fr' h' a' w' ρ' q A' L' s' (by rw [d']; exact hD.step s')) ops.toList 0 [] fr [] h ρ a w (by simp) (by simp) hr L.lo (St.refl Rl) rfl (Agr.refl _ _)
   simpa using this
  | true =>
   have hr : cev R F (kdregC P N sl ops) CT fr h Kn Kr Ke = some out := hr
   unfold kdregC at hr
   cases hbf : befs ops.toList 0 [] with
   | none => rw [hbf] at hr; cases hr
   | some ms =>
    rw [hbf] at hr
    simp only [kdregOf] at hr
    cases hap : apartN (dstsOf ops.toList) with
    | false => rw [hap] at hr; cases hr
    | true =>
     rw [hap] at hr
     generalize hlw : lwOf P sl ops ms = lw at hr
     have hr : kDreg R (kdopers P lw sl ops (dstNs N ops.toList) ms ops.toList ms (inters (onesOf ms) (blinds lw ops.toList) ms) 0 0) (ptsOf sl ops.toList) lw fr h Kn = some out := hr
     obtain ⟨ho1, ho2⟩ := kdopers_old (P := P) (lw := lw) (fr := fr) (sl := sl) (ops := ops) (ds := dstNs N ops.toList) (all := ms) ops.toList ms (inters (onesOf ms) (blinds lw ops.toList) ms) 0 0
     obtain ⟨hcut, hr⟩ : Nat.ble (cutO fr lw) h.nx = true ∧ kD R fr (dStart fr h lw) (fun loc h' => Kn (putAll (ptsOf sl ops.toList) loc.reverse fr) (dEnd fr h h' lw)) (kdopers P lw sl ops (dstNs N ops.toList) ms ops.toList ms (inters (onesOf ms) (blinds lw ops.toList) ms) 0 0) [] [] (dStart fr h lw) = some out := by
      cases lw with
      | none => exact ⟨rfl, hr⟩
      | some p =>
       unfold kDreg at hr
       cases hb : Nat.ble (cutO fr (some p)) h.nx with
       | false => simp only [hb] at hr; cases hr
       | true => simp only [hb] at hr; exact ⟨rfl, hr⟩
     have hc := Nat.le_of_ble_eq_true hcut
     have hd := kD_runD fr (dStart fr h lw) (cutO fr lw) _ out _ ho2 [] [] [] (dStart fr h lw) trivial (dStart_cut hc).1 (dStart_cut hc).2 hr
     rw [ho1] at hd
     obtain ⟨Lv, h', hkn, hall⟩ := runD_indep _ _ _ _ hd
     have hst : stepC (toRn R) fr h (dregC P N sl ops) = some (.fin .nor (putAll (ptsOf sl ops.toList) Lv.reverse fr) (dEnd fr h h' lw)) := by
      unfold dregC
      rw [hbf]
      simp only [dregOf]
      rw [hap]
      simp only [dregW, hlw, stepC, runDreg, hcut]
      exact hall (fun loc h' => some (.fin .nor (putAll (ptsOf sl ops.toList) loc.reverse fr) (dEnd fr h h' lw))) _ rfl
     refine wpIn_region_any hm (anyIn (fun ⟨a1, w1, hc⟩ => by obtain ⟨hc, _⟩ := hc; cases hc) hdf _ _ _ _ (dreg_any hN G hcall hst L Rl)) |> fun z => wpIn_mono z fun x a1 w1 hc => ?_
     obtain ⟨rfl, d1, ρ1, L1, s1⟩ := hc
     refine hn _ (dEnd fr h h' lw) a1 w1 ρ1 hkn (Agr.putAll _ _ _ fun p hp => ?_) L1 s1 (by rw [d1]; exact hD.step s1)
     obtain ⟨o, t, q1, q2, q3⟩ := ptsOf_mem hp
     exact bitOf_mem q3 (opsMods_mem q1 q2)
 | rangeFunc f ps as b ias ib =>
  intro out ro CT n0 fr h Kn Kr Ke B ρ a w Q hro hr L Rl hz hD hn hk he
  simp only [kcode] at hr
  cases hx : gx (plainCx sl []) f with
  | none => rw [hx] at hr; cases hr
  | some x =>
  rw [hx] at hr
  cases hnd : andB (noDef as) (noDef b) with
  | false => rw [hnd] at hr; cases hr
  | true =>
  rw [hnd] at hr
  obtain ⟨hda, hdb⟩ := andB_true hnd
  obtain ⟨hd, hhd⟩ : ∃ hd, roundK (ps.toList.map (slot sl)) (cev R F (kcode P N sl as) noCT) (cev R F (kcode P N sl b) noCT) fr = hd := ⟨_, rfl⟩
  have hr : kRf CT R (ev ⟨fr, []⟩ x) h (roundK (ps.toList.map (slot sl)) (cev R F (kcode P N sl as) noCT) (cev R F (kcode P N sl b) noCT) fr) (Kn fr) (Kr fr) (fun id h' => Ke id fr h') = some out := hr
  rw [hhd] at hr
  obtain ⟨fn, first, cap, hev, hr⟩ := vFunc_some hr
  cases fn with
  | method => cases hr
  | methodOf => cases hr
  | via => cases hr
  | yield => cases hr
  | func g =>
  obtain ⟨hfi, hr⟩ := nilC_some (show nilC first.toList _ = some out from hr)
  have hr : kCall (CT (extR h.nx (hd h.nx) R)) g (.func (.yield h.nx) #[] #[] :: cap.toList) ⟨Tr.setK (.lp 0) h.hp h.nx, Nat.succ h.nx, h.lo⟩ (fun _ h2 => finR h.nx h2 (Kn fr) (Kr fr) (fun id h' => Ke id fr h')) = some out := hr
  obtain ⟨v, h2, hcl, hfin⟩ := kCall_some hr
  rw [setK_eq] at hcl
  have hro2 : ro = none ∧ CTOk P CT := by
   rcases hro with g | ⟨rfl, _⟩
   ·exact g
   ·cases hcl
  obtain ⟨rfl, hCT⟩ := hro2
  have hv := gx_VR (a := a) L.en hx
  rw [hev] at hv
  generalize hq : a.eval f = fv at hv
  cases hv with
  | func _ _ f' _ c' hny g1 g2 g3 g4 =>
  have hf0 : f' = #[] := by
   have : first.size = 0 := by rw [← Array.length_toList, hfi]; rfl
   exact Array.eq_empty_of_size_eq_zero (by omega)
  refine wpIn_rangeFunc fun fn hfn => ?_
  obtain ⟨rc, hrc⟩ : ∃ rc : Loop, rc = { state := .ready, pending := none, fn, tmps := a.tmps, params := ps, assign := as, body := b, defers := w.heap.size } := ⟨_, rfl⟩
  obtain ⟨W1, hW1⟩ : ∃ W1, (w.alloc (.deferred (some []))).alloc (.loop rc) = W1 := ⟨_, rfl⟩
  obtain ⟨H, hH⟩ : ∃ H : Host, H = ⟨w.heap.size + 1, 0, 0, 0, some rc⟩ := ⟨_, rfl⟩
  have hHb : H.blk = w.heap.size + 1 := by rw [hH]
  have hHr : H.rc = some rc := by rw [hH]
  have hsz1 : W1.heap.size = w.heap.size + 2 := by rw [← hW1]; simp
  have hL1 : W1.heap[w.heap.size + 1]? = some (.loop rc) := by
   rw [← hW1]; have := World.alloc_heap_new (w.alloc (.deferred (some []))) (.loop rc); rwa [World.size_alloc] at this
  have hK1 : W1.heap[w.heap.size]? = some (.deferred (some [])) := by
   rw [← hW1]; exact (Below.heap_alloc _ _ _ (by simp)).trans (World.alloc_heap_new w _)
  have hb1 : Below w.heap.size w W1 := by
   rw [← hW1]; exact ((Below.refl _ w).alloc (Nat.le_refl _) _).alloc (by simp) _
  obtain ⟨ρ1, hρ1⟩ : ∃ ρ1, ρ1 = ρ.add h.nx H := ⟨_, rfl⟩
  obtain ⟨h1, hh1⟩ : ∃ h1 : Hs, h1 = ⟨h.hp.set h.nx (some (.lp 0)), Nat.succ h.nx, h.lo⟩ := ⟨_, rfl⟩
  have s1 : St B ρ h w ρ1 h1 W1 := by
   rw [hρ1, hh1]
   refine step_add Rl rfl (by rw [hHb]; omega) (by rw [hHb, hsz1]; omega) hb1 ⟨H, rc, Ren.add_same _ _ _, (by rw [hHb]; have := Rl.base; omega), hHr, ?_⟩
   rw [hHb, hL1, hrc]
   rfl
  have hρH : ρ1 h.nx = some H := by rw [hρ1]; exact Ren.add_same _ _ _
  have D1 : Dq n0 ρ1 h1 W1 (mark w.heap.size :: a.defers) := by
   obtain ⟨q1, Ds, q2, q3, q4⟩ := hD.step s1
   obtain ⟨p1, Ds', p2, p3, p4⟩ := hD
   have hinj : ∀ {X Y : List Nat}, X.map mark = Y.map mark → X = Y := by
    intro X
    induction X with
    | nil => intro Y e; cases Y with
     | nil => rfl
     | cons y ys => cases e
    | cons x xs ihx => intro Y e; cases Y with
     | nil => cases e
     | cons y ys =>
      simp only [List.map_cons, List.cons.injEq] at e
      obtain ⟨e1, e2⟩ := e
      have : x = y := by unfold mark at e1; injection e1 with e1 _; injection e1
      rw [this, ihx e2]
   have hDs : Ds' = Ds := hinj (by rw [← p2, ← q2])
   subst hDs
   refine ⟨q1, w.heap.size :: Ds', by rw [q2]; rfl, List.nodup_cons.2 ⟨fun hm => by have := (p4 _ hm).2.1; omega, q3⟩, fun D hm => ?_⟩
   rcases List.mem_cons.1 hm with rfl | hm
   ·refine ⟨p1, by omega, hK1, fun id b0 H0 hb hrw hH0 => ?_⟩
    by_cases e : id = h.nx
    ·subst e
     rw [hρH] at hH0
     injection hH0 with hH0
     subst hH0
     omega
    ·have hb' : h.hp.get id = some b0 := by
      rw [hh1] at hb
      have hb : (h.hp.set h.nx (some (.lp 0))).get id = some b0 := hb
      rw [Tr.get_set, if_neg (fun q => e q.symm)] at hb
      exact hb
     obtain ⟨X, e1, e2⟩ := (Rl.has id b0 hb').host_lt
     rw [hρ1, Ren.add_other _ _ e, e1] at hH0
     injection hH0 with hH0
     subst hH0
     omega
   ·exact q4 D hm
  have hle1 : ρ.le ρ1 := s1.le
  have hY1 : YOk P (extR h.nx (hd h.nx) R) ρ1 := by
   intro l xs v0 h0 h0' B0 ρ' w' H' xs' hr0 hl0 Rl0 hle0 hH0
   obtain ⟨ys, e1, hr0⟩ := extR_yid hr0
   injection e1 with e1 e2
   injection e1 with e1
   injection e1 with e1
   subst e1
   subst e2
   have hρ'H := hle0 _ _ hρH
   rw [hρ'H] at hH0
   injection hH0 with hH0
   subst hH0
   rw [← hhd] at hr0
   obtain ⟨st, hst, hr0⟩ := getLp_some (show getLp h0 h.nx _ = some (.val v0 h0') from hr0)
   obtain ⟨hB0, hho⟩ := lp_host Rl0 hst hρ'H hHr
   obtain ⟨hlen, fr1, hr0, L1⟩ := unE_some ps.toList xs fr a.tmps xs'.toList hr0 hl0 (L.mono (Ren.le_trans hle1 hle0))
   have hfold : (ps.zip xs').foldl (fun t (p, v) => t.setIfInBounds p v) a.tmps = (ps.toList.zip xs'.toList).foldl (fun t (p, v) => t.setIfInBounds p v) a.tmps := by
    rw [← Array.foldl_toList, Array.toList_zip]
   rw [← hfold] at L1
   have hpr : rc.params = ps := by rw [hrc]
   have htm : rc.tmps = a.tmps := by rw [hrc]
   have has : rc.assign = as := by rw [hrc]
   have hbd : rc.body = b := by rw [hrc]
   refine ⟨_, _, _, _, run_yield hho (by show xs'.size = rc.params.size; rw [hpr]; have := hl0.1; simp at this hlen; omega), roundIn_of_wpIn trivial ?_⟩
   show rc.assign.wpIn (FW (some H.blk)) 0 P _ { tmps := (rc.params.zip xs').foldl (fun t (p, v) => t.setIfInBounds p v) rc.tmps, defers := [] } w'
   rw [hpr, htm, has]
   refine ias (.val v0 h0') (some H.blk) noCT w'.heap.size fr1 h0 _ _ _ B0 ρ' _ w' _ (.inr ⟨rfl, hda⟩) hr0 L1 Rl0 (Ren.le_trans hz (Ren.le_trans hle1 hle0)) (Dq.nil (Nat.le_refl _)) (fun fr2 h2 a2 w2 ρ2 q A2 L2 s2 d2 => ?_) (fun fr2 h2 a2 w2 ρ2 q => by cases q) (fun id fr2 h2 a2 w2 ρ2 q => by cases q)
   obtain ⟨st2, hst2, q⟩ := getLp_some (show getLp h2 h.nx _ = some (.val v0 h0') from q)
   have hρ2H := s2.le _ _ hρ'H
   cases st2 with
   | succ n => cases q
   | zero =>
   obtain ⟨_, hh2⟩ := lp_host s2.hr hst2 hρ2H hHr
   have s3 := lp_set s2.hr hst2 hρ2H hHr 1
   have q := (setLp_eq h2 h.nx 1 _).symm.trans q
   obtain ⟨W3, hW3⟩ : ∃ W3, W3 = w2.putObj H.blk (.loop { rc with state := stOf 1, pending := pdOf 1 }) := ⟨_, rfl⟩
   rw [← hW3] at s3
   refine ⟨W3, by rw [hW3]; exact run_beginRound hh2 rfl, ?_⟩
   show rc.body.wpIn (FW (some H.blk)) 0 P _ a2 W3
   rw [hbd]
   have hρ3H : ρ2 h.nx = some H := hρ2H
   refine ib (.val v0 h0') (some H.blk) noCT w'.heap.size fr2 _ _ _ _ B0 ρ2 a2 W3 _ (.inr ⟨rfl, hdb⟩) q L2 s3.hr (Ren.le_trans hz (Ren.le_trans hle1 (Ren.le_trans hle0 s2.le))) (d2.step s3) (fun fr4 h4 a4 w4 ρ4 q4 A4 L4 s4 d4 => ?_) (fun fr4 h4 a4 w4 ρ4 q4 L4 s4 d4 => ?_) (fun id fr4 h4 a4 w4 ρ4 q4 A4 L4 s4 d4 => ?_)
   ·obtain ⟨w5, e1, rfl, s5⟩ := endR_ok (P := P) (jump := none) q4 s4.hr (s4.le _ _ hρ3H) hHr rfl rfl rfl
    exact ⟨_, w5, e1, _, ρ4, rfl, .bool _, St.trans Rl0 s2 (St.trans s2.hr s3 (St.trans s3.hr s4 s5))⟩
   ·obtain ⟨w5, e1, rfl, s5⟩ := endR_ok (P := P) (jump := some .ret) q4 s4.hr (s4.le _ _ hρ3H) hHr rfl rfl rfl
    exact ⟨_, w5, e1, _, ρ4, rfl, .bool _, St.trans Rl0 s2 (St.trans s2.hr s3 (St.trans s3.hr s4 s5))⟩
   ·obtain ⟨w5, e1, rfl, s5⟩ := endR_ok (P := P) (jump := some (.exit id)) q4 s4.hr (s4.le _ _ hρ3H) hHr rfl rfl rfl
    exact ⟨_, w5, e1, _, ρ4, rfl, .bool _, St.trans Rl0 s2 (St.trans s2.hr s3 (St.trans s3.hr s4 s5))⟩
  have hvl : VL ρ1 (.func (.yield h.nx) #[] #[] :: cap.toList) (#[Value.func (.yield (w.heap.size + 1)) #[] #[]] ++ c').toList := by
   have e1 : VR ρ1 (.func (.yield h.nx) #[] #[]) (.func (.yield (w.heap.size + 1)) #[] #[]) := by rw [← hHb]; exact .yield _ H hρH
   simpa using VL.cons e1 ((VL.arr g3 g4).mono hle1)
  rw [← hh1] at hcl
  obtain ⟨⟨fg, hfg⟩, hcalls⟩ := hCT _ ρ1 (ext_good G) (ext_hc hcall) hY1 g _ _ v _ h2 B ρ1 W1 hcl hvl s1.hr (Ren.le_refl _)
  refine ⟨w.heap.size + 1, [mark w.heap.size], W1, { target := .fn (.func g) c', args := #[.func (.yield (w.heap.size + 1)) #[] #[]] }, W1, g, #[.func (.yield (w.heap.size + 1)) #[] #[]] ++ c', W1, ?_, ?_, fun _ _ => trivial, ?_, (fun h => by cases h), ?_⟩
  ·rw [← hW1, hrc]; exact run_enterLoop_outer _ _ _ _ _
  ·rw [hf0] at hq
   simp only [resolve, hq]
   simp [go_sem]
  ·have eg := callFunc_run hN hfg
   simp [invoke, go_sem, eg]
  ·refine (callsFW hcalls : CallsIn (FW none) (0 - 1) P g _ W1 _).mono ?_
   rintro e w2 ⟨v', ρ2, rfl, _, s2⟩
   obtain ⟨st, hst, hfin⟩ := getLp_some (show getLp h2 h.nx _ = some out from hfin)
   have hρ2H := s2.le _ _ hρH
   obtain ⟨hB2, hh2⟩ := lp_host s2.hr hst hρ2H hHr
   have hfin := (delLp_eq h2 h.nx _).symm.trans hfin
   have s3 := step_del s2.hr hst rfl hρ2H hB2 (.loop { rc with state := .exhausted, pending := pdOf st })
   rw [hHb] at s3 hh2
   have sA := St.trans Rl s1 (St.trans s1.hr s2 s3)
   have dA : Dq n0 ρ2 _ _ (mark w.heap.size :: a.defers) := (D1.step s2).step s3
   have LA : FrR ρ2 sl N fr a.tmps := L.mono sA.le
   cases st with
   | zero =>
    refine ⟨none, _, run_endLoop hh2 (fun e => by cases e), ?_⟩
    exact hn fr _ { a with defers := [mark w.heap.size] ++ a.defers } _ ρ2 hfin (Agr.refl _ _) LA sA dA
   | succ n => cases n with
    | zero => cases hfin
    | succ n => cases n with
     | zero =>
      refine ⟨some .ret, _, run_endLoop hh2 (fun e => by cases e), ?_⟩
      exact wpIn_ret (hk fr _ { a with defers := [mark w.heap.size] ++ a.defers } _ ρ2 hfin LA sA dA)
     | succ id =>
      refine ⟨some (.exit id), _, run_endLoop hh2 (fun e => by cases e), ?_⟩
      exact wpIn_exit (he id fr _ { a with defers := [mark w.heap.size] ++ a.defers } _ ρ2 hfin (Agr.refl _ _) LA sA dA)
 | scope b _ => intro out ro CT n0 fr h Kn Kr Ke B ρ a w Q hro hr; cases hr
 | label l => intro out ro CT n0 fr h Kn Kr Ke B ρ a w Q hro hr; cases hr
 | goto l => intro out ro CT n0 fr h Kn Kr Ke B ρ a w Q hro hr; cases hr
 | refuse y => intro out ro CT n0 fr h Kn Kr Ke B ρ a w Q hro hr; cases hr
theorem tmpsR_res {en : En} {h : Hs} : ∀ {rs : List GRes} {xs : List GX}, tmpsR rs = some xs → resV en h rs = some (evL en xs) := by
 intro rs
 induction rs with
 | nil => intro xs h1; simp only [tmpsR, Option.some.injEq] at h1; subst h1; rfl
 | cons r rs ih =>
  intro xs h1
  cases r with
  | cell x n ag => cases h1
  | t x =>
   simp only [tmpsR] at h1
   cases hr : tmpsR rs with
   | none => rw [hr] at h1; cases h1
   | some ys =>
    rw [hr] at h1
    simp only [Option.some.injEq] at h1
    subst h1
    simp only [resV, ih hr, consR, evL]
theorem packR_V (h : Hs) (vs : List Value) : packR h (some vs) = some (.val (packV vs) h) := by
 cases vs with
 | nil => rfl
 | cons v ws => cases ws <;> rfl
theorem mvCell_flat {src : Tr Blk} {n0 : Nat} {m : Mv} {v : Value} (hv : flat1 v = true) : mvCell src n0 m v = some (v, m) := by
 cases v <;> first | rfl | cases hv | skip
 case pointer a => cases a <;> first | rfl | cases hv
 case slice a n c => cases a <;> first | rfl | cases hv
theorem mvPart_flat {src : Tr Blk} {n0 : Nat} {m : Mv} {v : Value} (hv : flat1 v = true) : mvPart src n0 m v = some (v, m) := by
 have := mvCell_flat (src := src) (n0 := n0) (m := m) hv
 cases v <;> first | exact this | cases hv
theorem mvCells_flat {src : Tr Blk} {n0 : Nat} {m : Mv} : ∀ {vs : List Value}, flatL vs = true → mvCells src n0 vs m = some (vs, m) := by
 intro vs
 induction vs with
 | nil => intro _; rfl
 | cons v vs ih =>
  intro h
  simp only [flatL] at h
  cases hv : flat1 v with
  | false => rw [hv] at h; cases h
  | true => rw [hv] at h; simp only [mvCells, mvCell_flat hv, mvCons, ih h]
theorem mvParts_flat {src : Tr Blk} {n0 : Nat} {m : Mv} : ∀ {vs : List Value}, flatL vs = true → mvParts src n0 vs m = some (vs, m) := by
 intro vs
 induction vs with
 | nil => intro _; rfl
 | cons v vs ih =>
  intro h
  simp only [flatL] at h
  cases hv : flat1 v with
  | false => rw [hv] at h; cases h
  | true => rw [hv] at h; simp only [mvParts, mvPart_flat hv, mvCons, ih h]
theorem clrL_eq {h0 h : Hs} {v : Value} {vs : List Value} (hv : flatL vs = true → mvAll h.hp h0.nx ⟨h0.hp, h0.nx, []⟩ v = some (v, ⟨h0.hp, h0.nx, []⟩)) : clrL h0 v h vs = clrS h0 v h := by
 unfold clrL
 cases hf : flatL vs with
 | false => rfl
 | true =>
  unfold clrS
  rw [hv hf]
  rfl
theorem clrV_eq (h0 : Hs) (v : Value) (h : Hs) : clrV h0 v h = clrS h0 v h := by
 have hagg : ∀ cs : Array Value, flatL cs.toList = true → mvAll h.hp h0.nx ⟨h0.hp, h0.nx, []⟩ (.agg cs) = some (.agg cs, ⟨h0.hp, h0.nx, []⟩) := fun cs hf => by
  show mvWrap (fun l => Value.agg l.toArray) (mvCells h.hp h0.nx cs.toList ⟨h0.hp, h0.nx, []⟩) = _
  rw [mvCells_flat hf]
  rfl
 have htup : ∀ cs : Array Value, flatL cs.toList = true → mvAll h.hp h0.nx ⟨h0.hp, h0.nx, []⟩ (.tuple cs) = some (.tuple cs, ⟨h0.hp, h0.nx, []⟩) := fun cs hf => by
  show mvWrap (fun l => Value.tuple l.toArray) (mvParts h.hp h0.nx cs.toList ⟨h0.hp, h0.nx, []⟩) = _
  rw [mvParts_flat hf]
  rfl
 cases v with
 | agg cs => exact clrL_eq (hagg cs)
 | tuple vs => exact clrL_eq (htup vs)
 | _ => rfl
theorem clrK_eq (h0 : Hs) (v : Value) (h : Hs) : clrK h0 v h = clear1 h0 v h (Nat.blt h.lo h0.nx) := by
 unfold clrK
 have hb : Nat.blt h.lo h0.nx = !(Nat.ble h0.nx h.lo) := by
  show Nat.ble (h.lo + 1) h0.nx = _
  rw [Bool.eq_iff_iff]
  simp only [Bool.not_eq_true', Nat.ble_eq, ← Bool.not_eq_true]
  omega
 rw [hb]
 cases Nat.ble h0.nx h.lo with
 | true => exact clrV_eq h0 v h
 | false =>
  show Bool.rec (motive := fun _ => An) (some (.val v ⟨h.hp, h.nx, h.lo⟩)) (some (.val v ⟨h.hp, h.nx, h0.lo⟩)) (Nat.ble h0.lo h.lo) = some (.val v ⟨h.hp, h.nx, minN h0.lo h.lo⟩)
  unfold minN
  cases Nat.ble h0.lo h.lo <;> rfl
theorem fin_eq (h0 : Hs) (rs : List GRes) (fr : Fr) (h : Hs) : fin h0 rs fr h = clearUp h0 (packR h (resV ⟨fr, []⟩ h rs)) := by
 unfold fin
 cases ht : tmpsR rs with
 | none => rfl
 | some xs =>
  rw [tmpsR_res ht, packR_V]
  exact clrK_eq h0 _ h
theorem unl_some {o : Out} : ∀ {ps : List (Option (List Bool))} {args : List Value} {fr : Fr} {K : Fr → An}, unl ps args fr K = some o → K (enterF args ps fr) = some o := by
 intro ps
 induction ps with
 | nil => intro args fr K h; cases args <;> exact h
 | cons p ps ih =>
  intro args fr K h
  cases args with
  | nil => cases h
  | cons v vs => exact ih (args := vs) (fr := put p v fr) h
theorem KF_FF {f : FuncId} {g : KFn} (h : KF P f = some g) : ∃ g', FF P f = some g' := by
 unfold KF at h
 unfold FF
 cases hd : P.funcs.toList.drop f with
 | nil => rw [hd] at h; cases h
 | cons fn rest =>
  rw [hd] at h
  simp only [kfnF, gfn] at h ⊢
  cases hb : fn.body with
  | none => rw [hb] at h; cases h
  | some body =>
   rw [hb] at h
   simp only [kfnAt, gfnAt] at h ⊢
   generalize resNeed fn.results.toList (codeNeed body []) = sl at h ⊢
   cases ha : allLt fn.ntmps sl with
   | false => rw [ha] at h; cases h
   | true =>
    rw [ha] at h
    cases hg : gres P sl fn.results.toList with
    | none => rw [hg] at h; cases h
    | some gs => exact ⟨_, rfl⟩
theorem St.putD {B : Nat} {ρ ρ1 : Ren} {h h2 : Hs} {w w1 : World} (S : St B ρ h w ρ1 h2 w1) (hB : B ≤ w.heap.size) {D : Nat} {x : Option (List Deferred)} (hD : w.heap.size ≤ D) (hh : w1.heap[D]? = some (.deferred x)) (o : Obj) : St B ρ h w ρ1 h2 (w1.putObj D o) := by
 have hfar : ∀ k, k ≠ D → (w1.putObj D o).heap[k]? = w1.heap[k]? := fun k hk => World.putObj_heap_other hk
 have hsz : (w1.putObj D o).heap.size = w1.heap.size := by simp [World.putObj]
 refine ⟨⟨by rw [hsz]; exact S.hr.base, S.hr.dom, fun id b hb => ?_, S.hr.inj⟩, S.nx, S.le, S.old, S.below.trans ⟨rfl, rfl, rfl, by rw [hsz]; exact Nat.le_refl _, fun k hk => hfar k (by omega)⟩, by rw [hsz]; exact S.size, S.lo, S.keep, S.gone, S.newrw,
  fun k hk hno => (hfar k (by omega)).trans (S.frame k hk hno), S.fresh⟩
 have hbr := S.hr.has id b hb
 have hne : ∀ H, ρ1 id = some H → H.blk ≠ D := fun H hH e => by
  cases b with
  | row c n e' u rw_ fl =>
   obtain ⟨H', arr, fz, q1, _, q2, _⟩ := hbr
   rw [hH] at q1; injection q1 with q1; subst q1
   rw [e, hh] at q2; cases q2
  | mp es cl =>
   obtain ⟨H', es', q1, _, q2, _⟩ := hbr
   rw [hH] at q1; injection q1 with q1; subst q1
   rw [e, hh] at q2; cases q2
  | it m si se la =>
   obtain ⟨H', q1, _, q2⟩ := hbr
   rw [hH] at q1; injection q1 with q1; subst q1
   rcases q2 with ⟨_, q2⟩ | ⟨_, _, _, _, q2⟩ <;> (rw [e, hh] at q2; cases q2)
  | lp st =>
   obtain ⟨H', r, q1, _, _, q2⟩ := hbr
   rw [hH] at q1; injection q1 with q1; subst q1
   rw [e, hh] at q2; cases q2
 exact hbr.mono (Ren.le_refl _) fun H hH => hfar _ (hne H hH)
theorem leave_marks {fn : Func} {tmps : Array Value} {R' : Ending → World → Prop} {B : Nat} {ρ ρ1 : Ren} {h h2 : Hs} {w : World} (hB : B ≤ w.heap.size)
 (hfin : ∀ w2, St B ρ h w ρ1 h2 w2 → ∃ v, (results fn tmps).run P w2 = .ok v w2 ∧ R' (.returned v) w2) : ∀ (Ds : List Nat) (w1 : World), Ds.Nodup → (∀ D ∈ Ds, w.heap.size ≤ D ∧ w1.heap[D]? = some (.deferred (some []))) → St B ρ h w ρ1 h2 w1 →
 LeavesInM Fence.wide 0 P fn tmps R' (Ds.map mark) .returning w1 := by
 intro Ds
 induction Ds with
 | nil => intro w1 _ _ S; exact hfin w1 S
 | cons D Ds ih =>
  intro w1 hnd hD S
  obtain ⟨q1, q2⟩ := hD D List.mem_cons_self
  obtain ⟨n1, n2⟩ := List.nodup_cons.1 hnd
  refine ⟨(fun e => by cases e), .inl ⟨D, _, rfl, run_takeDeferred q2, ih _ n2 (fun D' hm => ?_) (S.putD hB q1 q2 _)⟩⟩
  obtain ⟨p1, p2⟩ := hD D' (List.mem_cons_of_mem _ hm)
  exact ⟨p1, (World.putObj_heap_other (fun e => n1 (by rw [← e]; exact hm))).trans p2⟩
theorem Dq.leaves {fn : Func} {tmps : Array Value} {R' : Ending → World → Prop} {B : Nat} {ρ ρ1 : Ren} {h h2 : Hs} {w w1 : World} {ds : List Deferred} (d : Dq w.heap.size ρ1 h2 w1 ds) (S : St B ρ h w ρ1 h2 w1) (hB : B ≤ w.heap.size)
 (hfin : ∀ w2, St B ρ h w ρ1 h2 w2 → ∃ v, (results fn tmps).run P w2 = .ok v w2 ∧ R' (.returned v) w2) : LeavesInM Fence.wide 0 P fn tmps R' ds .returning w1 := by
 obtain ⟨_, Ds, rfl, q1, q2⟩ := d
 exact leave_marks hB hfin Ds w1 q1 (fun D hD => ⟨(q2 D hD).1, (q2 D hD).2.2.1⟩) S
set_option maxHeartbeats 1000000 in
theorem kfn_ok (hm : P.follows .mixedOrders = true) (hN : Named P) (G : Good P (toRn R)) (hcall : HC P (toRn R)) {ρz : Ren} (hY : YOk P R ρz) {CT : CTy} (hCT : CTOk P CT) {F : Nat}
 (f : FuncId) (args : List Value) (args' : Array Value) (v : Value) (h h' : Hs) (B : Nat) (ρ : Ren) (w : World) {g : KFn} (hkf : KF P f = some g) (hr : kfn CT R F g args h = some (.val v h')) (hl : VL ρ args args'.toList) (Rl : HR B ρ h w) (hz : ρz.le ρ) :
 Calls P f args' w (fun e w' => ∃ v' ρ', e = .returned v' ∧ VR ρ' v v' ∧ St B ρ h w ρ' h' w') := by
 unfold KF at hkf
 cases hd : P.funcs.toList.drop f with
 | nil => rw [hd] at hkf; cases hkf
 | cons fn rest =>
  rw [hd] at hkf
  have hf : P.funcs[f]? = some fn := by
   have : (P.funcs.toList.drop f)[0]? = some fn := by rw [hd]; rfl
   simpa using this
  simp only [kfnF] at hkf
  cases hb : fn.body with
  | none => rw [hb] at hkf; cases hkf
  | some body =>
   rw [hb] at hkf
   simp only at hkf
   generalize resNeed fn.results.toList (codeNeed body []) = sl at hkf
   unfold kfnAt at hkf
   cases hal : allLt fn.ntmps sl with
   | false => rw [hal] at hkf; cases hkf
   | true =>
    rw [hal] at hkf
    cases hgr : gres P sl fn.results.toList with
    | none => rw [hgr] at hkf; cases hkf
    | some gs =>
     rw [hgr] at hkf
     simp only [Option.some.injEq] at hkf
     subst hkf
     have hr2 := unl_some (K := fun fr => enK h (fun h1 => cev R F (kcode P fn.ntmps sl body) CT fr h1 (fin h gs) (fin h gs) (fun _ _ _ => none))) hr
     have hr3 : cev R F (kcode P fn.ntmps sl body) CT (enterF args (parsFrom sl (fn.params.size + fn.nfree) 0) .e) ⟨h.hp, h.nx, h.nx⟩ (fin h gs) (fin h gs) (fun _ _ _ => none) = some (.val v h') := hr2
     have Rl2 : HR B ρ ⟨h.hp, h.nx, h.nx⟩ w := ⟨Rl.base, Rl.dom, Rl.has, Rl.inj⟩
     have L : FrR ρ sl fn.ntmps (enterF args (parsFrom sl (fn.params.size + fn.nfree) 0) .e) (args' ++ Array.replicate (fn.ntmps - args'.size) undef) := by
      refine ⟨fun t p hp => ?_, by simp; omega, allLt_mem hal⟩
      rw [enter_frame args _ 0 .e t p hp]
      have hal : args.length = args'.size := by simpa using hl.1
      by_cases hin : 0 ≤ t ∧ t < 0 + (fn.params.size + fn.nfree) ∧ t < 0 + args.length
      ·rw [if_pos hin]
       have ht : t < args.length := by omega
       have ht' : t < args'.toList.length := by rw [← hl.1]; exact ht
       rw [Nat.sub_zero, List.getElem?_eq_getElem ht]
       have : (args' ++ Array.replicate (fn.ntmps - args'.size) undef).getD t undef = args'.toList[t] := by
        rw [Array.getD_eq_getD_getElem?, Array.getElem?_append_left (by simpa using ht')]
        have h9 : t < args'.size := by simpa using ht'
        simp [h9]
       rw [this]
       exact hl.2 t _ _ (List.getElem?_eq_getElem ht) (List.getElem?_eq_getElem ht')
      ·rw [if_neg hin]
       rw [Tr.getp_e]
       exact .dunno _
     have done : ∀ (fr2 : Fr) (h2 : Hs) (a1 : Act) (w1 : World) (ρ1 : Ren), fin h gs fr2 h2 = some (.val v h') → FrR ρ1 sl fn.ntmps fr2 a1.tmps → St B ρ ⟨h.hp, h.nx, h.nx⟩ w ρ1 h2 w1 →
      ∃ v', (results fn a1.tmps).run P w1 = .ok v' w1 ∧ ∃ v'' ρ', Ending.returned v' = .returned v'' ∧ VR ρ' v v'' ∧ St B ρ h w ρ' h' w1 := by
      intro fr2 h2 a1 w1 ρ1 hfin L1 s1
      rw [fin_eq] at hfin
      cases hrv : resV ⟨fr2, []⟩ h2 gs with
      | none => rw [hrv] at hfin; cases hfin
      | some vs =>
       rw [hrv, packR_V] at hfin
       obtain ⟨v1, h1, hlv, hcl⟩ := clearUp_ok Rl hfin
       simp only [Option.some.injEq, Out.val.injEq] at hlv
       obtain ⟨rfl, rfl⟩ := hlv
       obtain ⟨vs', q1, q2⟩ := resV_run (P := P) L1 s1.hr fn.results.toList gs vs hgr hrv
       have hmr : (results fn a1.tmps).run P w1 = .ok (if hh : vs'.toArray.size = 1 then vs'.toArray[0] else .tuple vs'.toArray) w1 := by
        have hfun : results fn a1.tmps = (do let vs ← fn.results.mapM (resRun a1.tmps); pure (if h : vs.size = 1 then vs[0] else .tuple vs)) := rfl
        rw [hfun, Array.mapM_eq_mapM_toList]
        simp only [Sem.run_bind, Sem.run_map, q1, Result.andThen_ok, Sem.run_pure]
       have hV : ∃ v', (results fn a1.tmps).run P w1 = .ok v' w1 ∧ VR ρ1 (packV vs) v' := by
        cases vs with
        | nil =>
         have := q2.nil_left
         subst this
         exact ⟨_, hmr, .tuple #[] #[] rfl (fun i a => by simp at a)⟩
        | cons u us =>
         obtain ⟨y, ys, rfl, r1, r2⟩ := q2.head
         cases us with
         | nil =>
          have := r2.nil_left
          subst this
          exact ⟨y, hmr, r1⟩
         | cons u2 us2 =>
          obtain ⟨y2, ys2, rfl, r3, r4⟩ := r2.head
          refine ⟨.tuple (y :: y2 :: ys2).toArray, ?_, VR.tuple_of q2⟩
          rw [hmr, dif_neg (by simp)]
       obtain ⟨v', m1, m2⟩ := hV
       obtain ⟨ρ2, n1, n2⟩ := hcl ρ1 w1 v' s1 m2
       exact ⟨v', m1, v', ρ2, rfl, n1, n2⟩
     refine callsIn_wide.1 (callsIn_of_wp_marks (n := 0) hf hb trivial ?_)
     refine cev_wp hm hN G hcall hY body _ none CT w.heap.size _ _ _ _ _ B ρ ⟨_, []⟩ w _ (.inl ⟨rfl, hCT⟩) hr3 L Rl2 hz (Dq.nil (Nat.le_refl _)) (fun fr2 h2 a1 w1 ρ1 q A1 L1 s1 d1 => ?_) (fun fr2 h2 a1 w1 ρ1 q L1 s1 d1 => ?_) (fun id fr2 h2 a1 w1 ρ1 q A1 L1 s1 d1 => by cases q)
     ·exact d1.leaves s1 Rl.base fun w2 s2 => done fr2 h2 a1 w2 ρ1 q L1 s2
     ·exact d1.leaves s1 Rl.base fun w2 s2 => done fr2 h2 a1 w2 ρ1 q L1 s2
theorem noCT_ok : CTOk P noCT := fun _ _ _ _ _ _ _ _ _ _ _ _ _ _ hr => by cases hr
theorem callT0_ok (hm : P.follows .mixedOrders = true) (hN : Named P) {F : Nat} : CTOk P (callT0 P F) := fun R' ρ1 G hc hY g args args' v h h' B ρ w hr hl Rl hle => by
 unfold callT0 at hr
 cases hkf : KF P g with
 | none => rw [hkf] at hr; cases hr
 | some gg =>
  rw [hkf] at hr
  exact ⟨KF_FF hkf, kfn_ok hm hN G hc hY noCT_ok g args args' v h h' B ρ w hkf hr hl Rl hle⟩
theorem YOk.none_of (h : ∀ args h, R YID args h = none) : YOk P R (fun _ => none) := fun l xs v h0 h' B ρ w H xs' hr => by rw [h] at hr; cases hr
theorem callT_ok (hm : P.follows .mixedOrders = true) (hN : Named P) (G : Good P (toRn R)) (hcall : HC P (toRn R)) (hY : ∀ args h, R YID args h = none) {F : Nat}
 (f : FuncId) (args : List Value) (args' : Array Value) (v : Value) (h h' : Hs) (B : Nat) (ρ : Ren) (w : World) (hr : callT P F R f args h = some (.val v h')) (hl : VL ρ args args'.toList) (Rl : HR B ρ h w) :
 Calls P f args' w (fun e w' => ∃ v' ρ', e = .returned v' ∧ VR ρ' v v' ∧ St B ρ h w ρ' h' w') := by
 unfold callT at hr
 cases hkf : KF P f with
 | none => rw [hkf] at hr; cases hr
 | some gg =>
  rw [hkf] at hr
  exact kfn_ok hm hN G hcall (YOk.none_of hY) (callT0_ok hm hN) f args args' v h h' B ρ w hkf hr hl Rl (fun _ _ e => by cases e)
end
def TabOk (P : Program) (F : Nat) (tab : RnK → RnK) : Prop := ∀ (R : RnK) (f : FuncId) (args : List Value) (h : Hs) (o : Out), tab R f args h = some o → callT P F R f args h = some o
abbrev FnK := RnK → Nat → List Value → Hs → An
def AllOk (P : Program) : List (Nat × FnK) → Prop
 | [] => True
 | e :: es => (∀ R N args h, e.2 R N args h = callT P N R e.1 args h) ∧ AllOk P es
noncomputable def mkTab (es : List (Nat × FnK)) : Tr FnK := List.rec (motive := fun _ => Tr FnK) .e (fun p _ t => Tr.setK p.2 t p.1) es
theorem mkTab_ok {P : Program} {f : Nat} {g : FnK} : ∀ {es : List (Nat × FnK)}, AllOk P es → (mkTab es).getK f = some g → ∀ R N args h, g R N args h = callT P N R f args h := by
 intro es
 induction es with
 | nil => intro _ h; cases h
 | cons p es ih =>
  intro ha hg
  replace hg : (Tr.setK p.2 (mkTab es) p.1).getK f = some g := hg
  rw [getK_eq, setK_eq, Tr.get, Tr.set, Tr.getp_setp] at hg
  by_cases e : pth p.1 = pth f
  ·rw [if_pos e] at hg
   injection hg with hg2
   have := pth_inj e
   subst this
   rw [← hg2]
   exact ha.1
  ·rw [if_neg e] at hg
   exact ih ha.2 (by rw [getK_eq]; exact hg)
noncomputable def tabOf (P : Program) (F : Nat) (es : List (Nat × FnK)) : RnK → RnK := fun R f args h => Option.rec (motive := fun _ => An) (callT P F R f args h) (fun g => g R F args h) ((mkTab es).getK f)
theorem tabOk_of {P : Program} {F : Nat} {T : FuncId → Option (RnK → Nat → List Value → Hs → An)} (hT : ∀ f g, T f = some g → ∀ R args h, g R F args h = callT P F R f args h) :
 TabOk P F (fun R f args h => Option.rec (motive := fun _ => An) (callT P F R f args h) (fun g => g R F args h) (T f)) := by
 intro R f args h o hh
 replace hh : Option.rec (motive := fun _ => An) (callT P F R f args h) (fun g => g R F args h) (T f) = some o := hh
 cases hf : T f with
 | none => rw [hf] at hh; exact hh
 | some g => rw [hf] at hh; rw [← hT f g hf R args h]; exact hh
theorem tabOf_ok {P : Program} {F : Nat} {es : List (Nat × FnK)} (h : AllOk P es) : TabOk P F (tabOf P F es) :=
 tabOk_of (T := fun f => (mkTab es).getK f) fun _ _ hg R args hh => mkTab_ok h hg R F args hh
structure SumOk (P : Program) (f : FuncId) (g : List Value → Hs → An) : Prop where
 ff : ∃ x, FF P f = some x
 ok : ∀ (args : List Value) (args' : Array Value) (v : Value) (h h' : Hs) (B : Nat) (ρ : Ren) (w : World), g args h = some (.val v h') → VL ρ args args'.toList → HR B ρ h w →
  Calls P f args' w (fun e w' => ∃ v' ρ', e = .returned v' ∧ VR ρ' v v' ∧ St B ρ h w ρ' h' w')
abbrev SmK := List Value → Hs → An
def SumsOk (P : Program) : List (Nat × SmK) → Prop
 | [] => True
 | e :: es => SumOk P e.1 e.2 ∧ SumsOk P es
noncomputable def mkTabS (es : List (Nat × SmK)) : Tr SmK := List.rec (motive := fun _ => Tr SmK) .e (fun p _ t => Tr.setK p.2 t p.1) es
theorem mkTabS_ok {P : Program} {f : Nat} {g : SmK} : ∀ {es : List (Nat × SmK)}, SumsOk P es → (mkTabS es).getK f = some g → SumOk P f g := by
 intro es
 induction es with
 | nil => intro _ h; cases h
 | cons p es ih =>
  intro ha hg
  replace hg : (Tr.setK p.2 (mkTabS es) p.1).getK f = some g := hg
  rw [getK_eq, setK_eq, Tr.get, Tr.set, Tr.getp_setp] at hg
  by_cases e : pth p.1 = pth f
  ·rw [if_pos e] at hg
   injection hg with hg2
   have := pth_inj e
   subst this
   rw [← hg2]
   exact ha.1
  ·rw [if_neg e] at hg
   exact ih ha.2 (by rw [getK_eq]; exact hg)
end Go.Gev

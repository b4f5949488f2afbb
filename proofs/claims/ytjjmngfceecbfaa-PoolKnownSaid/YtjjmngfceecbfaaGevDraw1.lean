/- A region that draws its order: what the evaluator's run of it says. -/
import Derived.Test.YtjjmngfceecbfaaGevStep
namespace Go.Gev
open Go.RowKit

/-- what stands before i, the last one first -/
def backL {α : Type} (V : Nat → α) : Nat → List α
  | 0 => []
  | i + 1 => V i :: backL V i
theorem backL_shift {α : Type} (V : Nat → α) : ∀ i, backL V (i + 1) = backL (fun j => V (j + 1)) i ++ [V 0] := by
  intro i
  induction i with
  | zero => rfl
  | succ i ih => rw [backL, ih, backL, List.cons_append]
theorem backL_rev {α : Type} (V : Nat → α) : ∀ i, (backL V i).reverse = (List.range i).map V := by
  intro i
  induction i with
  | zero => rfl
  | succ i ih => rw [backL, List.reverse_cons, ih, List.range_succ, List.map_append]; rfl
theorem backL_congr {α : Type} {V U : Nat → α} : ∀ {i}, (∀ j, j < i → V j = U j) → backL V i = backL U i := by
  intro i
  induction i with
  | zero => intro _; rfl
  | succ i ih => intro h; rw [backL, backL, h i (by omega), ih (fun j hj => h j (by omega))]
theorem lmOf_back (m : Nat) : ∀ i, lmOf m i = backL (fun j => Nat.testBit m j) i := by
  intro i
  induction i with
  | zero => rfl
  | succ i ih => rw [lmOf, backL, ih]
theorem maskL_back (b : Nat → Bool) (V : Nat → Value) : ∀ i, maskL (backL b i) (backL V i) = backL (fun j => match b j with | true => V j | false => dunno) i := by
  intro i
  induction i with
  | zero => rfl
  | succ i ih => rw [backL, backL, backL, ← ih]; rfl

theorem locAt_back {t : Nat} {D : Nat → Option Nat} : ∀ {i : Nat} {ix : Ix}, locAt t (backL D i) = some ix → ∃ j, j < i ∧ D j = some t ∧ ∀ V : Nat → Value, nthL ix (backL V i) = V j := by
  intro i
  induction i with
  | zero => intro ix h; cases h
  | succ i ih =>
    intro ix h
    rw [backL] at h
    cases hd : D i with
    | none =>
      rw [hd] at h
      obtain ⟨k, rfl, hl⟩ := locAt_cons_none h
      obtain ⟨j, h1, h2, h3⟩ := ih hl
      exact ⟨j, by omega, h2, fun V => by rw [backL, nthL_s]; exact h3 V⟩
    | some d =>
      rw [hd] at h
      rcases locAt_cons_some h with ⟨e1, rfl⟩ | ⟨e1, k, rfl, hl⟩
      · exact ⟨i, by omega, by rw [hd, e1], fun V => by rw [backL, nthL_z]⟩
      · obtain ⟨j, h1, h2, h3⟩ := ih hl
        exact ⟨j, by omega, h2, fun V => by rw [backL, nthL_s]; exact h3 V⟩

/-! ### the run -/
section
variable {P : Program} {R : Rn}

theorem doOp_split {en : En} {h : Hs} {K : Value → Hs → Option Out} {op : GOp} {out : Out} (he : doOp R en h K op = some out) :
    ∃ v h1, doOp R en h (fun v h => some (.val v h)) op = some (.val v h1) ∧ K v h1 = some out := by
  have onVal : ∀ o : Option Out, isVal K o = some out → ∃ v h1, isVal (fun v h => some (.val v h)) o = some (.val v h1) ∧ K v h1 = some out := fun o ho => by
    cases o with
    | none => cases ho
    | some x => cases x with
      | fin e fr h2 => cases ho
      | val v h2 => exact ⟨v, h2, rfl, ho⟩
  cases op with
  | fn g =>
    simp only [doOp] at he ⊢
    cases hg : g en h with
    | none => rw [hg] at he; cases he
    | some p => rw [hg] at he; exact ⟨p.1, p.2, rfl, he⟩
  | call f args => exact onVal _ he
  | callv f args => exact onVal _ he

def DRec (R : Rn) (fr : Fr) (d : DOper) (loc : List Value) (hist : List (Nat × Nat)) (h : Hs) (v : Value) (h' : Hs) : Prop :=
  (goes ⟨clrF d.clr fr, maskL d.lm loc⟩ d.guard = some false ∧ v = undef' ∧ h' = h) ∨
  (goes ⟨clrF d.clr fr, maskL d.lm loc⟩ d.guard = some true ∧ ∃ h1, doOp R ⟨clrF d.clr fr, maskL d.lm loc⟩ (dHid d.kind d.lm hist h) (fun v h => some (.val v h)) d.op = some (.val v h1) ∧
    dFit h h1 d.kind = true ∧ h' = dNext h h1 d.kind)

theorem dStep_rec {fr : Fr} {loc : List Value} {hist : List (Nat × Nat)} {h : Hs} {d : DOper} {K : Value → Hs → Option Out} {out : Out} (he : dStep R fr loc hist h d K = some out) :
    ∃ v h', DRec R fr d loc hist h v h' ∧ K v h' = some out := by
  unfold dStep at he
  cases hg : goes ⟨clrF d.clr fr, maskL d.lm loc⟩ d.guard with
  | none => rw [hg] at he; cases he
  | some b =>
    rw [hg] at he
    cases b with
    | false => exact ⟨undef', h, .inl ⟨hg, rfl, rfl⟩, he⟩
    | true =>
      simp only [dGo] at he
      obtain ⟨v, h1, e1, e2⟩ := doOp_split he
      cases hf : dFit h h1 d.kind with
      | false => rw [hf] at e2; cases e2
      | true => rw [hf] at e2; exact ⟨v, dNext h h1 d.kind, .inr ⟨hg, h1, e1, hf, rfl⟩, e2⟩

theorem runD_nil (fr : Fr) (K : List Value → Hs → Option Out) (loc : List Value) (hist : List (Nat × Nat)) (h : Hs) : runD R fr K [] loc hist h = K loc h := rfl
theorem runD_cons (fr : Fr) (K : List Value → Hs → Option Out) (o : DOper) (rest : List DOper) (loc : List Value) (hist : List (Nat × Nat)) (h : Hs) :
    runD R fr K (o :: rest) loc hist h = dStep R fr loc hist h o (fun v h' => runD R fr K rest (v :: loc) ((h.nx, h'.nx) :: hist) h') := rfl

/-- what stands where: the pairs of numbers -/
def rng (H : Nat → Hs) : Nat → Nat × Nat := fun i => ((H i).nx, (H (i + 1)).nx)

theorem runD_rec {fr : Fr} {K : List Value → Hs → Option Out} {out : Out} : ∀ (ops : List DOper) (loc : List Value) (hist : List (Nat × Nat)) (h : Hs), runD R fr K ops loc hist h = some out →
    ∃ (V : Nat → Value) (H : Nat → Hs), H 0 = h ∧ (∀ i d, ops[i]? = some d → DRec R fr d (backL V i ++ loc) (backL (rng H) i ++ hist) (H i) (V i) (H (i + 1))) ∧ K (backL V ops.length ++ loc) (H ops.length) = some out := by
  intro ops
  induction ops with
  | nil => intro loc hist h hr; exact ⟨fun _ => dunno, fun _ => h, rfl, (fun i d hd => by simp at hd), hr⟩
  | cons o rest ih =>
    intro loc hist h hr
    rw [runD_cons] at hr
    obtain ⟨v, h', e1, e2⟩ := dStep_rec hr
    obtain ⟨V, H, h0, hs, hk⟩ := ih _ _ _ e2
    let V1 : Nat → Value := fun i => match i with | 0 => v | i + 1 => V i
    let H1 : Nat → Hs := fun i => match i with | 0 => h | i + 1 => H i
    have hV : ∀ i, backL V1 (i + 1) ++ loc = backL V i ++ (v :: loc) := fun i => by
      rw [backL_shift]
      show backL V i ++ [v] ++ loc = _
      rw [List.append_assoc]; rfl
    have hH : ∀ i, backL (rng H1) (i + 1) ++ hist = backL (rng H) i ++ ((h.nx, h'.nx) :: hist) := fun i => by
      rw [backL_shift]
      show backL (rng H) i ++ [(h.nx, (H 0).nx)] ++ hist = _
      rw [List.append_assoc, h0]; rfl
    refine ⟨V1, H1, rfl, fun i d hd => ?_, ?_⟩
    · cases i with
      | zero =>
        simp only [List.getElem?_cons_zero, Option.some.injEq] at hd
        subst hd
        show DRec R fr o loc hist h v (H 0)
        rw [h0]; exact e1
      | succ i =>
        simp only [List.getElem?_cons_succ] at hd
        rw [hV, hH]
        exact hs i d hd
    · rw [List.length_cons, hV]; exact hk

/-! ### frames -/
theorem clrF_getp {q : List Bool} : ∀ (ps : List (List Bool)) (fr : Fr), (clrF ps fr).getp q = if q ∈ ps then none else fr.getp q := by
  intro ps
  induction ps with
  | nil => intro fr; simp [clrF]
  | cons p ps ih =>
    intro fr
    rw [clrF, ih, Tr.getp_setp]
    by_cases h1 : q ∈ ps
    · simp [h1]
    · by_cases h2 : p = q
      · subst h2; simp [h1]
      · have h3 : ¬ q = p := fun e => h2 e.symm
        simp [h1, h2, h3]

theorem putAll_slot {sl : List Nat} {t : Nat} {p : List Bool} (hp : slot sl t = some p) : ∀ (os : List Oper) (vs : List Value) (fr : Fr), os.length = vs.length →
    (∃ (j : Nat) (o : Oper) (v : Value), os[j]? = some o ∧ o.dst = some t ∧ vs[j]? = some v ∧ (putAll (ptsOf sl os) vs fr).getp p = some v) ∨ ((∀ o ∈ os, o.dst ≠ some t) ∧ (putAll (ptsOf sl os) vs fr).getp p = fr.getp p) := by
  intro os
  induction os with
  | nil => intro vs fr _; exact .inr ⟨by simp, rfl⟩
  | cons o os ih =>
    intro vs fr hl
    cases vs with
    | nil => simp at hl
    | cons v vs =>
      rw [ptsOf, putAll]
      rcases ih vs (put (match o.dst with | none => none | some t => slot sl t) v fr) (by simpa using hl) with ⟨j, o', v', h1, h2, h3, h4⟩ | ⟨h1, h2⟩
      · exact .inl ⟨j + 1, o', v', by simpa using h1, h2, by simpa using h3, h4⟩
      · by_cases hd : o.dst = some t
        · refine .inl ⟨0, o, v, rfl, hd, rfl, ?_⟩
          refine h2.trans ?_
          simp only [hd, hp, put]
          rw [Tr.getp_setp, if_pos rfl]
        · refine .inr ⟨fun o' ho' => ?_, ?_⟩
          · rcases List.mem_cons.1 ho' with rfl | ho'
            · exact hd
            · exact h1 o' ho'
          · refine h2.trans ?_
            cases hx : o.dst with
            | none => rfl
            | some d =>
              simp only
              cases hs : slot sl d with
              | none => rfl
              | some q =>
                simp only [put]
                rw [Tr.getp_setp, if_neg (fun e => hd (by rw [hx, slot_inj hs hp e]))]

/-! ### memory -/
theorem hideN_get : ∀ (n i : Nat) (t : Tr Blk) (id : Nat) (b : Blk), (hideN n i t).get id = some b → t.get id = some b ∧ ¬ (i ≤ id ∧ id < i + n) := by
  intro n
  induction n with
  | zero => intro i t id b h; exact ⟨h, by omega⟩
  | succ n ih =>
    intro i t id b h
    rw [hideN] at h
    obtain ⟨h1, h2⟩ := ih _ _ _ _ h
    rw [Tr.get_set] at h1
    split at h1
    · cases h1
    · exact ⟨h1, by omega⟩
theorem hideH_back {b : Nat → Bool} {r : Nat → Nat × Nat} {t : Tr Blk} {id : Nat} {x : Blk} : ∀ {i : Nat}, (hideH (backL b i) (backL r i) t).get id = some x → t.get id = some x ∧ ∀ j, j < i → (r j).1 ≤ id → id < (r j).2 → b j = true := by
  intro i
  induction i with
  | zero => intro h; exact ⟨h, fun j hj => by omega⟩
  | succ i ih =>
    intro h
    rw [backL, backL] at h
    unfold hideH at h
    simp only at h
    cases hb : b i with
    | true =>
      rw [hb] at h
      obtain ⟨h1, h2⟩ := ih h
      refine ⟨h1, fun j hj a c => ?_⟩
      by_cases e : j = i
      · subst e; exact hb
      · exact h2 j (by omega) a c
    | false =>
      rw [hb] at h
      obtain ⟨h0, h3⟩ := hideN_get _ _ _ _ _ h
      obtain ⟨h1, h2⟩ := ih h0
      refine ⟨h1, fun j hj a c => ?_⟩
      by_cases e : j = i
      · subst e
        have h4 : ¬ ((r j).1 ≤ id ∧ id < (r j).1 + ((r j).2 - (r j).1)) := h3
        omega
      · exact h2 j (by omega) a c
theorem backN_get {src : Tr Blk} : ∀ (n i : Nat) (t : Tr Blk) (id : Nat), (backN src n i t).get id = if i ≤ id ∧ id < i + n then src.get id else t.get id := by
  intro n
  induction n with
  | zero => intro i t id; rw [backN, if_neg (by omega)]
  | succ n ih =>
    intro i t id
    rw [backN, ih, Tr.get_set]
    by_cases h1 : i = id
    · subst h1; rw [if_neg (by omega), if_pos rfl, if_pos (by omega)]
    · by_cases h2 : i ≤ id ∧ id < i + (n + 1)
      · rw [if_pos h2, if_pos (by simp only [Nat.succ_eq_add_one]; omega)]
      · rw [if_neg h2, if_neg (by simp only [Nat.succ_eq_add_one]; omega), if_neg h1]

theorem orB_true {a b : Bool} : orB a b = true ↔ a = true ∨ b = true := by cases a <;> cases b <;> simp [orB]

/-! ### what stands ahead -/
theorem befOf_bit {ms : List Nat} {x : Nat} : ∀ {es : List Nat}, (befOf ms es).testBit x = true → ∃ e, e ∈ es ∧ (x = e ∨ (nthN ms e).testBit x = true) := by
  intro es
  induction es with
  | nil => intro h; simp [befOf] at h
  | cons e es ih =>
    intro h
    have h' : ((2 ^ e ||| nthN ms e) ||| befOf ms es).testBit x = true := h
    rw [Nat.testBit_or, Nat.testBit_or, Bool.or_eq_true, Bool.or_eq_true] at h'
    rcases h' with (h' | h') | h'
    · rw [Nat.testBit_two_pow] at h'
      exact ⟨e, List.mem_cons_self, .inl (of_decide_eq_true h').symm⟩
    · exact ⟨e, List.mem_cons_self, .inr h'⟩
    · obtain ⟨e', h1, h2⟩ := ih h'
      exact ⟨e', List.mem_cons_of_mem _ h1, h2⟩
theorem nthN_eq : ∀ (ms : List Nat) (i : Nat), nthN ms i = ms.getD i 0 := by
  intro ms
  induction ms with
  | nil => intro i; simp [nthN]
  | cons m ms ih => intro i; cases i with
    | zero => rfl
    | succ i => rw [nthN]; simp only [ih]; rfl

theorem befs_spec : ∀ (os : List Oper) (ms0 ms : List Nat), befs os ms0.length ms0 = some ms → ms.length = ms0.length + os.length ∧ (∀ k, k < ms0.length → ms.getD k 0 = ms0.getD k 0) ∧
    ∀ k o, os[k]? = some o → (∀ e ∈ edgesOf o.after.toList, e < ms0.length + k) ∧ ∀ x, (ms.getD (ms0.length + k) 0).testBit x = true → ∃ e, e ∈ edgesOf o.after.toList ∧ (x = e ∨ (ms.getD e 0).testBit x = true) := by
  intro os
  induction os with
  | nil =>
    intro ms0 ms h
    simp only [befs, Option.some.injEq] at h
    subst h
    exact ⟨rfl, fun _ _ => rfl, fun k o hk => by simp at hk⟩
  | cons o os ih =>
    intro ms0 ms h
    rw [befs] at h
    cases ha : allLt ms0.length (edgesOf o.after.toList) with
    | false => rw [ha] at h; cases h
    | true =>
      rw [ha] at h
      simp only at h
      have hlen : (ms0 ++ [befOf ms0 (edgesOf o.after.toList)]).length = ms0.length.succ := by simp
      rw [← hlen] at h
      obtain ⟨h1, h2, h3⟩ := ih _ _ h
      rw [hlen] at h1 h2 h3
      have hpre : ∀ k, k < ms0.length → ms.getD k 0 = ms0.getD k 0 := fun k hk => by
        rw [h2 k (by omega)]
        simp [List.getElem?_append_left hk]
      refine ⟨by rw [h1]; simp; omega, hpre, fun k o' hk => ?_⟩
      cases k with
      | zero =>
        simp only [List.getElem?_cons_zero, Option.some.injEq] at hk
        subst hk
        refine ⟨fun e he => by rw [Nat.add_zero]; exact allLt_mem ha e he, fun x hx => ?_⟩
        rw [Nat.add_zero, h2 _ (by omega)] at hx
        have : (ms0 ++ [befOf ms0 (edgesOf o.after.toList)]).getD ms0.length 0 = befOf ms0 (edgesOf o.after.toList) := by simp
        rw [this] at hx
        obtain ⟨e, q1, q2⟩ := befOf_bit hx
        refine ⟨e, q1, q2.imp id fun q => ?_⟩
        rw [nthN_eq] at q
        rw [hpre e (allLt_mem ha e q1)]
        exact q
      | succ k =>
        simp only [List.getElem?_cons_succ] at hk
        have := h3 k o' hk
        rw [show ms0.length.succ + k = ms0.length + (k + 1) from by omega] at this
        exact this

theorem edges_ready {listed : Array Bool} : ∀ {es : List Edge}, (∀ e ∈ es, !Region.binds .any e || listed.getD e.on false) → ∀ x ∈ edgesOf es, listed.getD x false = true := by
  intro es
  induction es with
  | nil => intro _ x hx; simp [edgesOf] at hx
  | cons e es ih =>
    intro h x hx
    rw [edgesOf] at hx
    have h2 : ∀ e' ∈ es, !Region.binds .any e' || listed.getD e'.on false := fun e' he' => h e' (List.mem_cons_of_mem _ he')
    cases hb : Region.binds .any e with
    | false => rw [hb] at hx; exact ih h2 x hx
    | true =>
      rw [hb] at hx
      rcases List.mem_cons.1 hx with rfl | hx
      · have := h e List.mem_cons_self
        rw [hb] at this
        simpa using this
      · exact ih h2 x hx
theorem ready_edges {listed : Array Bool} : ∀ {es : List Edge}, (∀ x ∈ edgesOf es, listed.getD x false = true) → ∀ e ∈ es, (!Region.binds .any e || listed.getD e.on false) = true := by
  intro es
  induction es with
  | nil => intro _ e he; simp at he
  | cons e es ih =>
    intro h e' he'
    rw [edgesOf] at h
    cases hb : Region.binds .any e with
    | false =>
      rw [hb] at h
      rcases List.mem_cons.1 he' with rfl | he'
      · rw [hb]; rfl
      · exact ih h e' he'
    | true =>
      rw [hb] at h
      rcases List.mem_cons.1 he' with rfl | he'
      · rw [h e'.on List.mem_cons_self]; simp
      · exact ih (fun x hx => h x (List.mem_cons_of_mem _ hx)) e' he'

/-! ### the kinds -/
theorem blinds_get : ∀ (os : List Oper) (i : Nat), (blinds os)[i]? = (os[i]?).map fun o => blindOp o.op := by
  intro os
  induction os with
  | nil => intro i; simp [blinds]
  | cons o os ih => intro i; cases i with
    | zero => rfl
    | succ i => rw [blinds]; simpa using ih i
theorem seesAll_spec {m : Nat} : ∀ {bs : List Bool} {k : Nat}, seesAll m bs k = true → ∀ j, bs[j]? = some false → m.testBit (k + j) = true := by
  intro bs
  induction bs with
  | nil => intro k _ j hj; simp at hj
  | cons b bs ih =>
    intro k h j hj
    rw [seesAll] at h
    cases ho : orB b (m.testBit k) with
    | false => rw [ho] at h; cases h
    | true =>
      rw [ho] at h
      cases j with
      | zero =>
        simp only [List.getElem?_cons_zero, Option.some.injEq] at hj
        subst hj
        exact ho
      | succ j =>
        have := ih h j (by simpa using hj)
        rw [show k.succ + j = k + (j + 1) from by omega] at this
        exact this
theorem seenBy_spec {i : Nat} : ∀ {bs : List Bool} {ms : List Nat}, seenBy i bs ms = true → ∀ (j m : Nat), bs[j]? = some false → ms[j]? = some m → m.testBit i = true := by
  intro bs
  induction bs with
  | nil => intro ms _ j m hj; simp at hj
  | cons b bs ih =>
    intro ms h j m hj hm
    cases ms with
    | nil => cases h
    | cons m0 ms =>
      rw [seenBy] at h
      cases ho : orB b (m0.testBit i) with
      | false => rw [ho] at h; cases h
      | true =>
        rw [ho] at h
        cases j with
        | zero =>
          simp only [List.getElem?_cons_zero, Option.some.injEq] at hj hm
          subst hj; subst hm
          exact ho
        | succ j => exact ih h j m (by simpa using hj) (by simpa using hm)

theorem kindOf_blind {bl : List Bool} {ms : List Nat} {i m : Nat} {o : Oper} : kindOf bl ms i m o = .blind ↔ blindOp o.op = true := by
  unfold kindOf
  cases blindOp o.op with
  | true => simp
  | false =>
    simp only [Bool.false_eq_true, iff_false]
    intro h
    cases h1 : seesAll m (bl.take i) 0 with
    | false => rw [h1] at h; cases h
    | true =>
      rw [h1] at h
      simp only at h
      cases h2 : seenBy i (bl.drop (Nat.succ i)) (ms.drop (Nat.succ i)) with
      | false => rw [h2] at h; cases h
      | true => rw [h2] at h; cases h
theorem kindOf_bar {bl : List Bool} {ms : List Nat} {i m : Nat} {o : Oper} (h : kindOf bl ms i m o = .bar) :
    blindOp o.op = false ∧ (∀ j, j < i → bl[j]? = some false → m.testBit j = true) ∧ (∀ (j m' : Nat), i < j → bl[j]? = some false → ms[j]? = some m' → m'.testBit i = true) := by
  unfold kindOf at h
  cases hb : blindOp o.op with
  | true => rw [hb] at h; cases h
  | false =>
    rw [hb] at h
    simp only at h
    cases h1 : seesAll m (bl.take i) 0 with
    | false => rw [h1] at h; cases h
    | true =>
      rw [h1] at h
      simp only at h
      cases h2 : seenBy i (bl.drop (Nat.succ i)) (ms.drop (Nat.succ i)) with
      | false => rw [h2] at h; cases h
      | true =>
        refine ⟨rfl, fun j hj hbj => ?_, fun j m' hj hbj hm => ?_⟩
        · have := seesAll_spec h1 j (by rw [List.getElem?_take, if_pos hj]; exact hbj)
          rwa [Nat.zero_add] at this
        · refine seenBy_spec h2 (j - (i + 1)) m' ?_ ?_
          · rw [List.getElem?_drop, show i.succ + (j - (i + 1)) = j from by omega]; exact hbj
          · rw [List.getElem?_drop, show i.succ + (j - (i + 1)) = j from by omega]; exact hm

/-! ### the operations, compiled -/
theorem clrOf_mem {sl : List Nat} {i t : Nat} {p : List Bool} : ∀ {os : List Oper} {ms : List Nat} {j m : Nat} {o : Oper}, os[j]? = some o → ms[j]? = some m → o.dst = some t → slot sl t = some p → m.testBit i = false → p ∈ clrOf sl i os ms := by
  intro os
  induction os with
  | nil => intro ms j m o h; simp at h
  | cons o os ih =>
    intro ms j m o' h1 h2 h3 h4 h5
    cases ms with
    | nil => simp at h2
    | cons m0 ms =>
      cases j with
      | zero =>
        simp only [List.getElem?_cons_zero, Option.some.injEq] at h1 h2
        subst h1; subst h2
        simp only [clrOf, h3, h4, h5]
        exact List.mem_cons_self
      | succ j =>
        have := ih (by simpa using h1) (by simpa using h2) h3 h4 h5
        rw [clrOf]
        cases hd : o.dst with
        | none => exact this
        | some d =>
          simp only
          cases hs : slot sl d with
          | none => exact this
          | some q =>
            simp only
            cases hb : Nat.testBit m0 i with
            | true => exact this
            | false => exact List.mem_cons_of_mem _ this

theorem dopers_len {N : Nat} {sl : List Nat} {ops : Array Oper} {all : List Nat} : ∀ (os : List Oper) (ms : List Nat) (i : Nat) (df : List (Option Nat)), ms.length = os.length → (dopers P N sl ops all os ms i df).length = os.length := by
  intro os
  induction os with
  | nil => intro ms i df _; rfl
  | cons o os ih =>
    intro ms i df h
    cases ms with
    | nil => simp at h
    | cons m ms => rw [dopers]; simp only [List.length_cons, ih ms _ _ (by simpa using h)]
theorem dopers_get {N : Nat} {sl : List Nat} {ops : Array Oper} {all : List Nat} : ∀ (os : List Oper) (ms : List Nat) (i : Nat) (df : List (Option Nat)) (k : Nat) (o : Oper) (m : Nat), os[k]? = some o → ms[k]? = some m →
    (dopers P N sl ops all os ms i df)[k]? = some ⟨gop P ⟨sl, backL (fun j => (os[j]?).bind (dstOf N)) k ++ df⟩ o, (goper P ⟨sl, backL (fun j => (os[j]?).bind (dstOf N)) k ++ df⟩ ops o).guard,
      kindOf (blinds ops.toList) all (i + k) m o, lmOf m (i + k), clrOf sl (i + k) ops.toList all⟩ := by
  intro os
  induction os with
  | nil => intro ms i df k o m h; simp at h
  | cons o os ih =>
    intro ms i df k o' m' h1 h2
    cases ms with
    | nil => simp at h2
    | cons m ms =>
      rw [dopers]
      cases k with
      | zero =>
        simp only [List.getElem?_cons_zero, Option.some.injEq] at h1 h2
        subst h1; subst h2
        rfl
      | succ k =>
        simp only [List.getElem?_cons_succ] at h1 h2 ⊢
        rw [ih ms _ _ k o' m' h1 h2, backL_shift]
        simp only [List.getElem?_cons_succ, List.getElem?_cons_zero, Option.bind_some, List.append_assoc, List.singleton_append, Nat.succ_eq_add_one, show i + 1 + k = i + (k + 1) from by omega]
end
end Go.Gev

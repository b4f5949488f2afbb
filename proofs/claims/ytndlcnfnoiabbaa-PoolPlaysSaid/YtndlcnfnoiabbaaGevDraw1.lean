/- A region that draws its order: what the evaluator's run of it says. -/
import Derived.Test.YtndlcnfnoiabbaaGevRuns
namespace Go.Gev
open Go.RowKit
def backL {α : Type} (V : Nat → α) : Nat → List α
 | 0 => []
 | i + 1 => V i :: backL V i
theorem backL_shift {α : Type} (V : Nat → α) : ∀ i, backL V (i + 1) = backL (fun j => V (j + 1)) i ++ [V 0] := by
 intro i
 induction i with
 | zero => rfl
 | succ i ih => rw [backL, ih, backL, List.cons_append]
theorem backL_rev {α : Type} (V : Nat → α) : ∀ i, (backL V i).reverse = (List.range i).map V := by
 intro i
 induction i with
 | zero => rfl
 | succ i ih => rw [backL, List.reverse_cons, ih, List.range_succ, List.map_append]; rfl
theorem lmOf_back (m : Nat) : ∀ i, lmOf m i = backL (fun j => Nat.testBit m j) i := by
 intro i
 induction i with
 | zero => rfl
 | succ i ih => rw [lmOf, backL, ih]
theorem nthL_ixOf {U : Nat → Value} : ∀ {i j : Nat}, j < i → nthL (ixOf (i - j - 1)) (backL U i) = U j := by
 intro i
 induction i with
 | zero => intro j h; omega
 | succ i ih =>
  intro j h
  rw [backL]
  by_cases e : j = i
  ·subst e
   rw [show j + 1 - j - 1 = 0 from by omega, ixOf, nthL_z]
  ·rw [show i + 1 - j - 1 = (i - j - 1) + 1 from by omega, ixOf, nthL_s]
   exact ih (by omega)
section
variable {P : Program} {R : Rn}
theorem doOp_split {en : En} {h : Hs} {K : Value → Hs → Option Out} {op : GOp} {out : Out} (he : doOp R en h K op = some out) :
 ∃ v h1, doOp R en h (fun v h => some (.val v h)) op = some (.val v h1) ∧ K v h1 = some out := by
 have onVal : ∀ o : Option Out, isVal K o = some out → ∃ v h1, isVal (fun v h => some (.val v h)) o = some (.val v h1) ∧ K v h1 = some out := fun o ho => by
  cases o with
  | none => cases ho
  | some x => cases x with
   | fin e fr h2 => cases ho
   | val v h2 => exact ⟨v, h2, rfl, ho⟩
 cases op with
 | fn g =>
  simp only [doOp] at he ⊢
  cases hg : g en h with
  | none => rw [hg] at he; cases he
  | some p => rw [hg] at he; exact ⟨p.1, p.2, rfl, he⟩
 | call f args => exact onVal _ he
 | callv f args => exact onVal _ he
def DRec (R : Rn) (fr : Fr) (h0 : Hs) (d : DOper) (loc : List Value) (hist : List (Nat × Nat)) (h : Hs) (v : Value) (h' : Hs) : Prop :=
 (goes ⟨fr, loc⟩ d.guard = some false ∧ v = undef' ∧ h' = h) ∨
 (goes ⟨fr, loc⟩ d.guard = some true ∧ ∃ h1, doOp R ⟨fr, loc⟩ (dHidW fr h0 d hist h) (fun v h => some (.val v h)) d.op = some (.val v h1) ∧
  dFitW fr h h1 d = true ∧ h' = dNext h h1 d.kind)
theorem dStep_rec {fr : Fr} {h0 : Hs} {loc : List Value} {hist : List (Nat × Nat)} {h : Hs} {d : DOper} {K : Value → Hs → Option Out} {out : Out} (he : dStep R fr h0 loc hist h d K = some out) :
 ∃ v h', DRec R fr h0 d loc hist h v h' ∧ K v h' = some out := by
 unfold dStep at he
 cases hg : goes ⟨fr, loc⟩ d.guard with
 | none => rw [hg] at he; cases he
 | some b =>
  rw [hg] at he
  cases b with
  | false => exact ⟨undef', h, .inl ⟨hg, rfl, rfl⟩, he⟩
  | true =>
   simp only [dGo] at he
   obtain ⟨v, h1, e1, e2⟩ := doOp_split he
   cases hf : dFitW fr h h1 d with
   | false => rw [hf] at e2; cases e2
   | true => rw [hf] at e2; exact ⟨v, dNext h h1 d.kind, .inr ⟨hg, h1, e1, hf, rfl⟩, e2⟩
theorem runD_cons (fr : Fr) (h0 : Hs) (K : List Value → Hs → Option Out) (o : DOper) (rest : List DOper) (loc : List Value) (hist : List (Nat × Nat)) (h : Hs) :
 runD R fr h0 K (o :: rest) loc hist h = dStep R fr h0 loc hist h o (fun v h' => runD R fr h0 K rest (v :: loc) ((h.nx, h'.nx) :: hist) h') := rfl
def rng (H : Nat → Hs) : Nat → Nat × Nat := fun i => ((H i).nx, (H (i + 1)).nx)
theorem runD_rec {fr : Fr} {h0 : Hs} {K : List Value → Hs → Option Out} {out : Out} : ∀ (ops : List DOper) (loc : List Value) (hist : List (Nat × Nat)) (h : Hs), runD R fr h0 K ops loc hist h = some out →
 ∃ (V : Nat → Value) (H : Nat → Hs), H 0 = h ∧ (∀ i d, ops[i]? = some d → DRec R fr h0 d (backL V i ++ loc) (backL (rng H) i ++ hist) (H i) (V i) (H (i + 1))) ∧ K (backL V ops.length ++ loc) (H ops.length) = some out := by
 intro ops
 induction ops with
 | nil => intro loc hist h hr; exact ⟨fun _ => dunno, fun _ => h, rfl, (fun i d hd => by simp at hd), hr⟩
 | cons o rest ih =>
  intro loc hist h hr
  rw [runD_cons] at hr
  obtain ⟨v, h', e1, e2⟩ := dStep_rec hr
  obtain ⟨V, H, hz, hs, hk⟩ := ih _ _ _ e2
  let V1 : Nat → Value := fun i => match i with | 0 => v | i + 1 => V i
  let H1 : Nat → Hs := fun i => match i with | 0 => h | i + 1 => H i
  have hV : ∀ i, backL V1 (i + 1) ++ loc = backL V i ++ (v :: loc) := fun i => by
   rw [backL_shift]
   show backL V i ++ [v] ++ loc = _
   rw [List.append_assoc]; rfl
  have hH : ∀ i, backL (rng H1) (i + 1) ++ hist = backL (rng H) i ++ ((h.nx, h'.nx) :: hist) := fun i => by
   rw [backL_shift]
   show backL (rng H) i ++ [(h.nx, (H 0).nx)] ++ hist = _
   rw [List.append_assoc, hz]; rfl
  refine ⟨V1, H1, rfl, fun i d hd => ?_, ?_⟩
  ·cases i with
   | zero =>
    simp only [List.getElem?_cons_zero, Option.some.injEq] at hd
    subst hd
    show DRec R fr h0 o loc hist h v (H 0)
    rw [hz]; exact e1
   | succ i =>
    simp only [List.getElem?_cons_succ] at hd
    rw [hV, hH]
    exact hs i d hd
  ·rw [List.length_cons, hV]; exact hk
theorem putAll_slot {sl : List Nat} {t : Nat} {p : List Bool} (hp : slot sl t = some p) : ∀ (os : List Oper) (vs : List Value) (fr : Fr), os.length = vs.length →
 (∃ (j : Nat) (o : Oper) (v : Value), os[j]? = some o ∧ o.dst = some t ∧ vs[j]? = some v ∧ (putAll (ptsOf sl os) vs fr).getp p = some v) ∨ ((∀ o ∈ os, o.dst ≠ some t) ∧ (putAll (ptsOf sl os) vs fr).getp p = fr.getp p) := by
 intro os
 induction os with
 | nil => intro vs fr _; exact .inr ⟨by simp, rfl⟩
 | cons o os ih =>
  intro vs fr hl
  cases vs with
  | nil => simp at hl
  | cons v vs =>
   rw [ptsOf, putAll]
   rcases ih vs (put (match o.dst with | none => none | some t => slot sl t) v fr) (by simpa using hl) with ⟨j, o', v', h1, h2, h3, h4⟩ | ⟨h1, h2⟩
   ·exact .inl ⟨j + 1, o', v', by simpa using h1, h2, by simpa using h3, h4⟩
   ·by_cases hd : o.dst = some t
    ·refine .inl ⟨0, o, v, rfl, hd, rfl, ?_⟩
     refine h2.trans ?_
     simp only [hd, hp, put]
     rw [Tr.getp_setp, if_pos rfl]
    ·refine .inr ⟨fun o' ho' => ?_, ?_⟩
     ·rcases List.mem_cons.1 ho' with rfl | ho'
      ·exact hd
      ·exact h1 o' ho'
     ·refine h2.trans ?_
      cases hx : o.dst with
      | none => rfl
      | some d =>
       simp only
       cases hs : slot sl d with
       | none => rfl
       | some q =>
        simp only [put]
        rw [Tr.getp_setp, if_neg (fun e => hd (by rw [hx, slot_inj hs hp e]))]
theorem hideN_get : ∀ (n i : Nat) (t : Tr Blk) (id : Nat) (b : Blk), (hideN n i t).get id = some b → t.get id = some b ∧ ¬ (i ≤ id ∧ id < i + n) := by
 intro n
 induction n with
 | zero => intro i t id b h; exact ⟨h, by omega⟩
 | succ n ih =>
  intro i t id b h
  rw [hideN] at h
  obtain ⟨h1, h2⟩ := ih _ _ _ _ h
  rw [Tr.get_set] at h1
  split at h1
  ·cases h1
  ·exact ⟨h1, by omega⟩
theorem hideH_back {b : Nat → Bool} {r : Nat → Nat × Nat} {t : Tr Blk} {id : Nat} {x : Blk} : ∀ {i : Nat}, (hideH (backL b i) (backL r i) t).get id = some x → t.get id = some x ∧ ∀ j, j < i → (r j).1 ≤ id → id < (r j).2 → b j = true := by
 intro i
 induction i with
 | zero => intro h; exact ⟨h, fun j hj => by omega⟩
 | succ i ih =>
  intro h
  rw [backL, backL] at h
  unfold hideH at h
  simp only at h
  cases hb : b i with
  | true =>
   rw [hb] at h
   obtain ⟨h1, h2⟩ := ih h
   refine ⟨h1, fun j hj a c => ?_⟩
   by_cases e : j = i
   ·subst e; exact hb
   ·exact h2 j (by omega) a c
  | false =>
   rw [hb] at h
   obtain ⟨h0, h3⟩ := hideN_get _ _ _ _ _ h
   obtain ⟨h1, h2⟩ := ih h0
   refine ⟨h1, fun j hj a c => ?_⟩
   by_cases e : j = i
   ·subst e
    have h4 : ¬ ((r j).1 ≤ id ∧ id < (r j).1 + ((r j).2 - (r j).1)) := h3
    omega
   ·exact h2 j (by omega) a c
theorem backN_get {src : Tr Blk} : ∀ (n i : Nat) (t : Tr Blk) (id : Nat), (backN src n i t).get id = if i ≤ id ∧ id < i + n then src.get id else t.get id := by
 intro n
 induction n with
 | zero => intro i t id; rw [backN, if_neg (by omega)]
 | succ n ih =>
  intro i t id
  rw [backN, ih, Tr.get_set]
  by_cases h1 : i = id
  ·subst h1; rw [if_neg (by omega), if_pos rfl, if_pos (by omega)]
  ·by_cases h2 : i ≤ id ∧ id < i + (n + 1)
   ·rw [if_pos h2, if_pos (by simp only [Nat.succ_eq_add_one]; omega)]
   ·rw [if_neg h2, if_neg (by simp only [Nat.succ_eq_add_one]; omega), if_neg h1]
theorem befOf_bit {ms : List Nat} {x : Nat} : ∀ {es : List Nat}, (befOf ms es).testBit x = true → ∃ e, e ∈ es ∧ (x = e ∨ (nthN ms e).testBit x = true) := by
 intro es
 induction es with
 | nil => intro h; simp [befOf] at h
 | cons e es ih =>
  intro h
  have h' : ((2 ^ e ||| nthN ms e) ||| befOf ms es).testBit x = true := h
  rw [Nat.testBit_or, Nat.testBit_or, Bool.or_eq_true, Bool.or_eq_true] at h'
  rcases h' with (h' | h') | h'
  ·rw [Nat.testBit_two_pow] at h'
   exact ⟨e, List.mem_cons_self, .inl (of_decide_eq_true h').symm⟩
  ·exact ⟨e, List.mem_cons_self, .inr h'⟩
  ·obtain ⟨e', h1, h2⟩ := ih h'
   exact ⟨e', List.mem_cons_of_mem _ h1, h2⟩
theorem nthN_eq : ∀ (ms : List Nat) (i : Nat), nthN ms i = ms.getD i 0 := by
 intro ms
 induction ms with
 | nil => intro i; simp [nthN]
 | cons m ms ih => intro i; cases i with
  | zero => rfl
  | succ i => rw [nthN]; simp only [ih]; rfl
theorem befs_spec : ∀ (os : List Oper) (ms0 ms : List Nat), befs os ms0.length ms0 = some ms → ms.length = ms0.length + os.length ∧ (∀ k, k < ms0.length → ms.getD k 0 = ms0.getD k 0) ∧
 ∀ k o, os[k]? = some o → (∀ e ∈ edgesOf o.after.toList, e < ms0.length + k) ∧ ∀ x, (ms.getD (ms0.length + k) 0).testBit x = true → ∃ e, e ∈ edgesOf o.after.toList ∧ (x = e ∨ (ms.getD e 0).testBit x = true) := by
 intro os
 induction os with
 | nil =>
  intro ms0 ms h
  simp only [befs, Option.some.injEq] at h
  subst h
  exact ⟨rfl, fun _ _ => rfl, fun k o hk => by simp at hk⟩
 | cons o os ih =>
  intro ms0 ms h
  rw [befs] at h
  cases ha : allLt ms0.length (edgesOf o.after.toList) with
  | false => rw [ha] at h; cases h
  | true =>
   rw [ha] at h
   simp only at h
   have hlen : (ms0 ++ [befOf ms0 (edgesOf o.after.toList)]).length = ms0.length.succ := by simp
   rw [← hlen] at h
   obtain ⟨h1, h2, h3⟩ := ih _ _ h
   rw [hlen] at h1 h2 h3
   have hpre : ∀ k, k < ms0.length → ms.getD k 0 = ms0.getD k 0 := fun k hk => by
    rw [h2 k (by omega)]
    simp [List.getElem?_append_left hk]
   refine ⟨by rw [h1]; simp; omega, hpre, fun k o' hk => ?_⟩
   cases k with
   | zero =>
    simp only [List.getElem?_cons_zero, Option.some.injEq] at hk
    subst hk
    refine ⟨fun e he => by rw [Nat.add_zero]; exact allLt_mem ha e he, fun x hx => ?_⟩
    rw [Nat.add_zero, h2 _ (by omega)] at hx
    have : (ms0 ++ [befOf ms0 (edgesOf o.after.toList)]).getD ms0.length 0 = befOf ms0 (edgesOf o.after.toList) := by simp
    rw [this] at hx
    obtain ⟨e, q1, q2⟩ := befOf_bit hx
    refine ⟨e, q1, q2.imp id fun q => ?_⟩
    rw [nthN_eq] at q
    rw [hpre e (allLt_mem ha e q1)]
    exact q
   | succ k =>
    simp only [List.getElem?_cons_succ] at hk
    have := h3 k o' hk
    rw [show ms0.length.succ + k = ms0.length + (k + 1) from by omega] at this
    exact this
theorem edges_ready {listed : Array Bool} : ∀ {es : List Edge}, (∀ e ∈ es, !Region.binds .any e || listed.getD e.on false) → ∀ x ∈ edgesOf es, listed.getD x false = true := by
 intro es
 induction es with
 | nil => intro _ x hx; simp [edgesOf] at hx
 | cons e es ih =>
  intro h x hx
  rw [edgesOf] at hx
  have h2 : ∀ e' ∈ es, !Region.binds .any e' || listed.getD e'.on false := fun e' he' => h e' (List.mem_cons_of_mem _ he')
  cases hb : Region.binds .any e with
  | false => rw [hb] at hx; exact ih h2 x hx
  | true =>
   rw [hb] at hx
   rcases List.mem_cons.1 hx with rfl | hx
   ·have := h e List.mem_cons_self
    rw [hb] at this
    simpa using this
   ·exact ih h2 x hx
theorem ready_edges {listed : Array Bool} : ∀ {es : List Edge}, (∀ x ∈ edgesOf es, listed.getD x false = true) → ∀ e ∈ es, (!Region.binds .any e || listed.getD e.on false) = true := by
 intro es
 induction es with
 | nil => intro _ e he; simp at he
 | cons e es ih =>
  intro h e' he'
  rw [edgesOf] at h
  cases hb : Region.binds .any e with
  | false =>
   rw [hb] at h
   rcases List.mem_cons.1 he' with rfl | he'
   ·rw [hb]; rfl
   ·exact ih h e' he'
  | true =>
   rw [hb] at h
   rcases List.mem_cons.1 he' with rfl | he'
   ·rw [h e'.on List.mem_cons_self]; simp
   ·exact ih (fun x hx => h x (List.mem_cons_of_mem _ hx)) e' he'
theorem blinds_get {lw : Option LW} : ∀ (os : List Oper) (i : Nat), (blinds lw os)[i]? = (os[i]?).map fun o => off lw o.op := by
 intro os
 induction os with
 | nil => intro i; simp [blinds]
 | cons o os ih => intro i; cases i with
  | zero => rfl
  | succ i => rw [blinds]; simpa using ih i
theorem inters_spec {ones x : Nat} : ∀ {bs : List Bool} {ms : List Nat} {k r : Nat}, (inters ones bs ms)[k]? = some r → ∀ (j m : Nat), k < j → bs[j]? = some false → ms[j]? = some m → r.testBit x = true → m.testBit x = true := by
 intro bs
 induction bs with
 | nil => intro ms k r h; simp [inters] at h
 | cons b bs ih =>
  intro ms k r h j m hkj hb hm hr
  cases ms with
  | nil => simp at hm
  | cons m0 ms =>
   rw [inters] at h
   obtain ⟨j, rfl⟩ : ∃ j', j = j' + 1 := ⟨j - 1, by omega⟩
   simp only [List.getElem?_cons_succ] at hb hm
   cases k with
   | succ k =>
    simp only [List.getElem?_cons_succ] at h
    exact ih h j m (by omega) hb hm hr
   | zero =>
    simp only [List.getElem?_cons_zero, Option.some.injEq] at h
    subst h
    cases bs with
    | nil => simp at hb
    | cons b1 bs =>
     cases ms with
     | nil => simp at hm
     | cons m1 ms =>
      have h1 : (inters ones (b1 :: bs) (m1 :: ms))[0]? = some (nextI ones bs ms (inters ones bs ms)) := by rw [inters]; rfl
      have hn : nextI ones (b1 :: bs) (m1 :: ms) (inters ones (b1 :: bs) (m1 :: ms)) = if b1 = true then nextI ones bs ms (inters ones bs ms) else Nat.land m1 (nextI ones bs ms (inters ones bs ms)) := by rw [inters]; cases b1 <;> rfl
      rw [hn] at hr
      have hboth : (nextI ones bs ms (inters ones bs ms)).testBit x = true ∧ (b1 = false → m1.testBit x = true) := by
       cases b1 with
       | true => exact ⟨hr, fun e => by cases e⟩
       | false =>
        have hr' : (m1 &&& nextI ones bs ms (inters ones bs ms)).testBit x = true := hr
        rw [Nat.testBit_and, Bool.and_eq_true] at hr'
        exact ⟨hr'.2, fun _ => hr'.1⟩
      cases j with
      | zero =>
       simp only [List.getElem?_cons_zero, Option.some.injEq] at hb hm
       subst hm
       exact hboth.2 hb
      | succ j => exact ih h1 (j + 1) m (by omega) hb hm hboth.1
theorem inters_len {ones : Nat} : ∀ {bs : List Bool} {ms : List Nat}, ms.length = bs.length → (inters ones bs ms).length = bs.length := by
 intro bs
 induction bs with
 | nil => intro ms _; rfl
 | cons b bs ih =>
  intro ms h
  cases ms with
  | nil => simp at h
  | cons m ms => rw [inters, List.length_cons, ih (by simpa using h), List.length_cons]
theorem blinds_len {lw : Option LW} : ∀ (os : List Oper), (blinds lw os).length = os.length := by
 intro os
 induction os with
 | nil => rfl
 | cons o os ih => rw [blinds, List.length_cons, ih, List.length_cons]
theorem kindOf_blind {b mk : Bool} {nb r m i : Nat} : kindOf b mk nb r m i = .blind ↔ b = true := by
 unfold kindOf
 cases b with
 | true => simp
 | false =>
  cases mk with
  | true => simp
  | false =>
   simp only
   cases Nat.beq (Nat.land m nb) nb with
   | true => cases Nat.testBit r i <;> simp
   | false => simp
theorem kindOf_make {b mk : Bool} {nb r m i : Nat} (h : kindOf b mk nb r m i ≠ .make) (hb : b = false) : mk = false := by
 subst hb
 cases mk with
 | true => exact absurd rfl h
 | false => rfl
theorem kindOf_bar {b mk : Bool} {nb r m i : Nat} (h : kindOf b mk nb r m i = .bar) : b = false ∧ (∀ j, nb.testBit j = true → m.testBit j = true) ∧ r.testBit i = true := by
 unfold kindOf at h
 cases b with
 | true => cases h
 | false =>
  cases mk with
  | true => cases h
  | false =>
  simp only at h
  cases hm : Nat.beq (Nat.land m nb) nb with
  | false => rw [hm] at h; cases h
  | true =>
   rw [hm] at h
   cases hr : Nat.testBit r i with
   | false => simp only [hr] at h; cases h
   | true =>
    refine ⟨rfl, fun j hj => ?_, rfl⟩
    have he : m &&& nb = nb := Nat.eq_of_beq_eq_true hm
    rw [← he, Nat.testBit_and] at hj
    simp only [Bool.and_eq_true] at hj
    exact hj.1
theorem posOf_some {t : Nat} : ∀ {ds : List (Option Nat)} {i j : Nat}, posOf t ds i = some j → ∃ k, j = i + k ∧ ds[k]? = some (some t) := by
 intro ds
 induction ds with
 | nil => intro i j h; cases h
 | cons d ds ih =>
  intro i j h
  cases d with
  | none =>
   rw [posOf] at h
   obtain ⟨k, h1, h2⟩ := ih h
   exact ⟨k + 1, by omega, by simpa using h2⟩
  | some x =>
   rw [posOf] at h
   cases hb : Nat.beq x t with
   | true => rw [hb] at h; injection h with h; exact ⟨0, by omega, by rw [Nat.eq_of_beq_eq_true hb]; rfl⟩
   | false =>
    rw [hb] at h
    obtain ⟨k, h1, h2⟩ := ih h
    exact ⟨k + 1, by omega, by simpa using h2⟩
theorem posOf_none {t : Nat} : ∀ {ds : List (Option Nat)} {i : Nat}, posOf t ds i = none → ∀ k : Nat, ds[k]? ≠ some (some t) := by
 intro ds
 induction ds with
 | nil => intro i _ k h; simp at h
 | cons d ds ih =>
  intro i h k hk
  cases d with
  | none =>
   rw [posOf] at h
   cases k with
   | zero => simp at hk
   | succ k => exact ih h k (by simpa using hk)
  | some x =>
   rw [posOf] at h
   cases hb : Nat.beq x t with
   | true => rw [hb] at h; cases h
   | false =>
    rw [hb] at h
    cases k with
    | zero => simp at hk; subst hk; rw [Nat.beq_refl] at hb; cases hb
    | succ k => exact ih h k (by simpa using hk)
theorem dstNs_get {N : Nat} : ∀ (os : List Oper) (k : Nat), (dstNs N os)[k]? = (os[k]?).map (dstOf N) := by
 intro os
 induction os with
 | nil => intro k; simp [dstNs]
 | cons o os ih => intro k; cases k with
  | zero => rfl
  | succ k => rw [dstNs]; simpa using ih k
theorem dopers_len {lw : Option LW} {sl : List Nat} {ops : Array Oper} {ds : List (Option Nat)} {all : List Nat} : ∀ (os : List Oper) (ms rs : List Nat) (i nb : Nat), ms.length = os.length → rs.length = os.length → (dopers P lw sl ops ds all os ms rs i nb).length = os.length := by
 intro os
 induction os with
 | nil => intro ms rs i nb _ _; rfl
 | cons o os ih =>
  intro ms rs i nb h1 h2
  cases ms with
  | nil => simp at h1
  | cons m ms => cases rs with
   | nil => simp at h2
   | cons r rs => rw [dopers]; simp only [List.length_cons, ih ms rs _ _ (by simpa using h1) (by simpa using h2)]
theorem nbStep_mono {b : Bool} {i nb x : Nat} (h : nb.testBit x = true) : (nbStep b i nb).testBit x = true := by
 cases b with
 | true => exact h
 | false =>
  show (nb ||| 2 ^ i).testBit x = true
  rw [Nat.testBit_or, h]; rfl
theorem nbStep_self {i nb : Nat} : (nbStep false i nb).testBit i = true := by
 show (nb ||| 2 ^ i).testBit i = true
 rw [Nat.testBit_or, Nat.testBit_two_pow_self]; simp
theorem dopers_get {lw : Option LW} {sl : List Nat} {ops : Array Oper} {ds : List (Option Nat)} {all : List Nat} : ∀ (os : List Oper) (ms rs : List Nat) (i nb k : Nat) (o : Oper) (m r : Nat), os[k]? = some o → ms[k]? = some m → rs[k]? = some r →
 ∃ nb', (dopers P lw sl ops ds all os ms rs i nb)[k]? = some ⟨gop P ⟨drawLook sl ds all (i + k) m⟩ o, (goper P ⟨drawLook sl ds all (i + k) m⟩ sl ops o).guard, kindOf (bld lw o.op) (mkOp o.op) nb' r m (i + k), lmIf m (i + k) (kindOf (bld lw o.op) (mkOp o.op) nb' r m (i + k)), lw, isLow lw o.op⟩ ∧
  (∀ x, nb.testBit x = true → nb'.testBit x = true) ∧ ∀ (j : Nat) (o' : Oper), j < k → os[j]? = some o' → bld lw o'.op = false → nb'.testBit (i + j) = true := by
 intro os
 induction os with
 | nil => intro ms rs i nb k o m r h; simp at h
 | cons o os ih =>
  intro ms rs i nb k o' m' r' h1 h2 h3
  cases ms with
  | nil => simp at h2
  | cons m ms => cases rs with
   | nil => simp at h3
   | cons r rs =>
    rw [dopers]
    cases k with
    | zero =>
     simp only [List.getElem?_cons_zero, Option.some.injEq] at h1 h2 h3
     subst h1; subst h2; subst h3
     exact ⟨nb, rfl, fun _ h => h, fun j _ hj => by omega⟩
    | succ k =>
     simp only [List.getElem?_cons_succ] at h1 h2 h3 ⊢
     obtain ⟨nb', q1, q2, q3⟩ := ih ms rs (Nat.succ i) (nbStep (bld lw o.op) i nb) k o' m' r' h1 h2 h3
     rw [show Nat.succ i + k = i + (k + 1) from by omega] at q1
     refine ⟨nb', q1, fun x hx => q2 x (nbStep_mono hx), fun j o2 hj hjo hb => ?_⟩
     cases j with
     | zero =>
      simp only [List.getElem?_cons_zero, Option.some.injEq] at hjo
      subst hjo
      refine q2 _ ?_
      rw [hb]; exact nbStep_self
     | succ j =>
      have := q3 j o2 (by omega) (by simpa using hjo) hb
      rw [show Nat.succ i + j = i + (j + 1) from by omega] at this
      exact this
end
end Go.Gev

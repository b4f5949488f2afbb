/- The evaluator's runs are the model's: regions, code, calls. -/
import Derived.Test.YtbecnapcgehliaaGreatDoorGevGc
namespace Go.Gev
open Go.RowKit

/-! ### frames -/
theorem slotAt_inj : ∀ {l : List Nat} {i a b n m : Nat}, slotAt a l i = some n → slotAt b l i = some m → n = m → a = b := by
  intro l
  have ge : ∀ {l : List Nat} {i a n : Nat}, slotAt a l i = some n → i ≤ n := by
    intro l
    induction l with
    | nil => intro i a n h; cases h
    | cons x l ih =>
      intro i a n h
      simp only [slotAt] at h
      cases hb : Nat.beq x a with
      | true => rw [hb] at h; injection h with h; omega
      | false => rw [hb] at h; have h2 := ih (i := i.succ) h; have : i + 1 ≤ n := h2; omega
  induction l with
  | nil => intro i a b n m h; cases h
  | cons x l ih =>
    intro i a b n m h1 h2 e
    simp only [slotAt] at h1 h2
    cases hb : Nat.beq x a with
    | true =>
      rw [hb] at h1
      injection h1 with h1
      cases hb2 : Nat.beq x b with
      | true => rw [← Nat.eq_of_beq_eq_true hb, ← Nat.eq_of_beq_eq_true hb2]
      | false => rw [hb2] at h2; have h3 := ge h2; have : i + 1 ≤ m := h3; omega
    | false =>
      rw [hb] at h1
      cases hb2 : Nat.beq x b with
      | true => rw [hb2] at h2; injection h2 with h2; have h3 := ge h1; have : i + 1 ≤ n := h3; omega
      | false => rw [hb2] at h2; exact ih h1 h2 e
theorem slot_inj {sl : List Nat} {a b : Nat} {p q : List Bool} (h1 : slot sl a = some p) (h2 : slot sl b = some q) (e : p = q) : a = b := by
  unfold slot at h1 h2
  cases e1 : slotAt a sl 0 with
  | none => rw [e1] at h1; cases h1
  | some n => cases e2 : slotAt b sl 0 with
    | none => rw [e2] at h2; cases h2
    | some m =>
      rw [e1] at h1; rw [e2] at h2
      injection h1 with h1; injection h2 with h2
      subst h1; subst h2
      exact slotAt_inj e1 e2 (pth_inj e)
theorem slotAt_mem : ∀ {l : List Nat} {i a n : Nat}, slotAt a l i = some n → a ∈ l := by
  intro l
  induction l with
  | nil => intro i a n h; cases h
  | cons x l ih =>
    intro i a n h
    simp only [slotAt] at h
    cases hb : Nat.beq x a with
    | true => rw [← Nat.eq_of_beq_eq_true hb]; exact List.mem_cons_self
    | false => rw [hb] at h; exact List.mem_cons_of_mem _ (ih h)
theorem slot_mem {sl : List Nat} {t : Nat} {p : List Bool} (h : slot sl t = some p) : t ∈ sl := by
  unfold slot at h
  cases e : slotAt t sl 0 with
  | none => rw [e] at h; cases h
  | some n => exact slotAt_mem e
theorem allLt_mem {N : Nat} : ∀ {l : List Nat}, allLt N l = true → ∀ x ∈ l, x < N := by
  intro l
  induction l with
  | nil => intro _ x hx; simp at hx
  | cons y l ih =>
    intro h x hx
    simp only [allLt] at h
    cases hb : Nat.blt y N with
    | false => rw [hb] at h; cases h
    | true =>
      rw [hb] at h
      rw [blt_eq] at hb
      rcases List.mem_cons.1 hx with rfl | hx
      · simpa using hb
      · exact ih h x hx

/-- a frame as the model's temporaries -/
structure FrR (ρ : Ren) (sl : List Nat) (N : Nat) (fr : Fr) (tm : Array Value) : Prop where
  fr : ∀ t p, slot sl t = some p → VR ρ (vOr (fr.getp p)) (tm.getD t undef)
  size : N ≤ tm.size
  lt : ∀ x ∈ sl, x < N
theorem FrR.mono {ρ ρ' : Ren} {sl : List Nat} {N : Nat} {fr : Fr} {tm : Array Value} (h : FrR ρ sl N fr tm) (hle : ρ.le ρ') : FrR ρ' sl N fr tm :=
  ⟨fun t p e => (h.fr t p e).mono hle, h.size, h.lt⟩
theorem FrR.en {ρ : Ren} {sl : List Nat} {N : Nat} {fr : Fr} {tm : Array Value} (h : FrR ρ sl N fr tm) : EnR ρ (plainCx sl []) ⟨fr, []⟩ tm :=
  EnR.plain h.fr fun t i e => by cases e

/-- inside a region: its own values, too -/
structure LoR (ρ : Ren) (sl : List Nat) (N : Nat) (fr : Fr) (loc : List Value) (df : List (Option Nat)) (tm : Array Value) : Prop extends FrR ρ sl N fr tm where
  loc : ∀ t i, locAt t df = some i → VR ρ (nthL i loc) (tm.getD t undef)
  dlt : ∀ t i, locAt t df = some i → t < N
theorem LoR.en {ρ : Ren} {sl : List Nat} {N : Nat} {fr : Fr} {loc : List Value} {df : List (Option Nat)} {tm : Array Value} (h : LoR ρ sl N fr loc df tm) : EnR ρ (plainCx sl df) ⟨fr, loc⟩ tm := EnR.plain h.fr h.loc
theorem LoR.mono {ρ ρ' : Ren} {sl : List Nat} {N : Nat} {fr : Fr} {loc : List Value} {df : List (Option Nat)} {tm : Array Value} (h : LoR ρ sl N fr loc df tm) (hle : ρ.le ρ') : LoR ρ' sl N fr loc df tm :=
  ⟨h.toFrR.mono hle, fun t i e => (h.loc t i e).mono hle, h.dlt⟩
theorem FrR.lo {ρ : Ren} {sl : List Nat} {N : Nat} {fr : Fr} {tm : Array Value} (h : FrR ρ sl N fr tm) : LoR ρ sl N fr [] [] tm := ⟨h, (fun t i e => by cases e), (fun t i e => by cases e)⟩

theorem getD_set {tm : Array Value} {d t : Nat} {v : Value} : (tm.setIfInBounds d v).getD t undef = if d = t ∧ d < tm.size then v else tm.getD t undef := by
  by_cases h : d = t
  · subst h
    by_cases h2 : d < tm.size
    · simp [Array.getD, h2]
    · simp [Array.getD, h2]
  · simp only [Array.getD_eq_getD_getElem?, Array.getElem?_setIfInBounds, h, false_and, if_false]

theorem nthL_z (v : Value) (l : List Value) : nthL .z (v :: l) = v := rfl
theorem nthL_s (i : Ix) (v : Value) (l : List Value) : nthL (.s i) (v :: l) = nthL i l := rfl

theorem locAt_cons_none {t : Nat} {df : List (Option Nat)} {i : Ix} (e : locAt t (none :: df) = some i) : ∃ j, i = .s j ∧ locAt t df = some j := by
  simp only [locAt] at e
  cases hl : locAt t df with
  | none => rw [hl] at e; cases e
  | some j => rw [hl] at e; injection e with e; exact ⟨j, e.symm, rfl⟩
theorem locAt_cons_some {d t : Nat} {df : List (Option Nat)} {i : Ix} (e : locAt t (some d :: df) = some i) : (d = t ∧ i = .z) ∨ (d ≠ t ∧ ∃ j, i = .s j ∧ locAt t df = some j) := by
  simp only [locAt] at e
  cases hb : Nat.beq d t with
  | true => rw [hb] at e; injection e with e; exact .inl ⟨Nat.eq_of_beq_eq_true hb, e.symm⟩
  | false =>
    rw [hb] at e
    cases hl : locAt t df with
    | none => rw [hl] at e; cases e
    | some j => rw [hl] at e; injection e with e; exact .inr ⟨beq_false.1 hb, j, e.symm, rfl⟩

/-- behind an operation -/
theorem LoR.put {ρ : Ren} {sl : List Nat} {N : Nat} {fr : Fr} {loc : List Value} {df : List (Option Nat)} {a : Act} (h : LoR ρ sl N fr loc df a.tmps) {o : Oper} {v v' : Value} (hv : VR ρ v v') :
    LoR ρ sl N (Gev.put (match o.dst with | none => none | some t => slot sl t) v fr) (v :: loc) (dstOf N o :: df) (a.put o.dst v').tmps := by
  cases hd : o.dst with
  | none =>
    have hdo : dstOf N o = none := by unfold dstOf; rw [hd]
    rw [hdo]
    refine ⟨⟨h.fr, h.size, h.lt⟩, fun t i e => ?_, fun t i e => ?_⟩
    · obtain ⟨j, rfl, hl⟩ := locAt_cons_none e
      rw [nthL_s]; exact h.loc t j hl
    · obtain ⟨j, rfl, hl⟩ := locAt_cons_none e
      exact h.dlt t j hl
  | some d =>
    have htm : (a.put (some d) v').tmps = a.tmps.setIfInBounds d v' := rfl
    have hsz : (a.put (some d) v').tmps.size = a.tmps.size := by rw [htm]; simp
    simp only
    refine ⟨⟨fun t p e => ?_, by rw [hsz]; exact h.size, h.lt⟩, fun t i e => ?_, fun t i e => ?_⟩
    · rw [htm, getD_set]
      by_cases hdt : d = t
      · subst hdt
        have hlt : d < a.tmps.size := Nat.lt_of_lt_of_le (h.lt d (slot_mem e)) h.size
        rw [if_pos ⟨rfl, hlt⟩, e]
        simp only [Gev.put, Tr.getp_setp, if_true, vOr]
        exact hv
      · rw [if_neg (fun q => hdt q.1)]
        cases hs : slot sl d with
        | none => exact h.fr t p e
        | some q =>
          simp only [Gev.put]
          rw [Tr.getp_setp, if_neg (fun e2 => hdt (slot_inj hs e e2))]
          exact h.fr t p e
    · rw [htm, getD_set]
      by_cases hN : d < N
      · have hdo : dstOf N o = some d := by unfold dstOf; rw [hd]; simp only [blt_eq, decide_eq_true hN]
        rw [hdo] at e
        rcases locAt_cons_some e with ⟨e1, rfl⟩ | ⟨e1, j, rfl, hl⟩
        · rw [if_pos ⟨e1, Nat.lt_of_lt_of_le hN h.size⟩, nthL_z]; exact hv
        · rw [if_neg (fun q => e1 q.1), nthL_s]; exact h.loc t j hl
      · have hdo : dstOf N o = none := by unfold dstOf; rw [hd]; simp only [blt_eq, decide_eq_false hN]
        rw [hdo] at e
        obtain ⟨j, rfl, hl⟩ := locAt_cons_none e
        have := h.dlt t j hl
        rw [if_neg (fun q => hN (by rw [q.1]; exact this)), nthL_s]; exact h.loc t j hl
    · by_cases hN : d < N
      · have hdo : dstOf N o = some d := by unfold dstOf; rw [hd]; simp only [blt_eq, decide_eq_true hN]
        rw [hdo] at e
        rcases locAt_cons_some e with ⟨e1, rfl⟩ | ⟨e1, j, rfl, hl⟩
        · rw [← e1]; exact hN
        · exact h.dlt t j hl
      · have hdo : dstOf N o = none := by unfold dstOf; rw [hd]; simp only [blt_eq, decide_eq_false hN]
        rw [hdo] at e
        obtain ⟨j, rfl, hl⟩ := locAt_cons_none e
        exact h.dlt t j hl

/-- a guard -/
theorem goes_spec {ρ : Ren} {sl : List Nat} {N : Nat} {fr : Fr} {loc : List Value} {df : List (Option Nat)} {a : Act} (h : LoR ρ sl N fr loc df a.tmps) {ops : Array Oper} {o : Oper} {b : Bool}
    (e : goes ⟨fr, loc⟩ (match o.guard with | none => none | some (j, want) => match (ops[j]?).bind (·.dst) with | some t => some (gt (plainCx sl df) t, want) | none => some (.c dunno, want)) = some b) :
    Region.wanted o (yielded ops a.tmps) = b := by
  unfold Region.wanted
  cases hg : o.guard with
  | none =>
    rw [hg] at e
    simp only [goes, Option.some.injEq] at e
    subst e; rfl
  | some q =>
    obtain ⟨j, want⟩ := q
    rw [hg] at e
    simp only at e ⊢
    cases hj : (ops[j]?).bind (·.dst) with
    | none => rw [hj] at e; simp [goes, ev, yes, dunno] at e
    | some t =>
      rw [hj] at e
      simp only [goes] at e
      have hv := gt_VR h.en t
      have hy : yielded ops a.tmps j = match a.tmps[t]? with | some (.bool b) => some b | _ => none := by
        unfold yielded; rw [hj]; rfl
      rw [hy]
      generalize hev : ev ⟨fr, loc⟩ (gt (plainCx sl df) t) = v at hv e
      cases v with
      | bool b0 =>
        simp only [yes, Option.some.injEq] at e
        have hq := hv.bool_inv
        have : a.tmps[t]? = some (.bool b0) := by
          rw [Array.getD_eq_getD_getElem?] at hq
          cases ht : a.tmps[t]? with
          | none => rw [ht] at hq; cases hq
          | some x => rw [ht] at hq; simp only [Option.getD_some] at hq; rw [hq]
        rw [this, ← e, eqB_eq]
        cases b0 <;> cases want <;> rfl
      | tuple vs =>
        obtain ⟨ys, hq, hl⟩ := hv.tuple_inv
        simp only [yes] at e
        have hne : ∀ b0, a.tmps[t]? ≠ some (.bool b0) := fun b0 hh => by
          rw [Array.getD_eq_getD_getElem?, hh] at hq; cases hq
        cases hvs : vs.toList with
        | cons x xs => rw [hvs] at e; cases e
        | nil =>
          rw [hvs] at e
          injection e with e
          subst e
          cases ht : a.tmps[t]? with
          | none => simp
          | some x => cases x with
            | bool b0 => exact absurd ht (hne b0)
            | _ => simp
      | _ => simp [yes] at e
end Go.Gev

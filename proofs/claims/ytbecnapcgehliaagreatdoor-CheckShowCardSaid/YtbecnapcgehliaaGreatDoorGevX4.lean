/- More operations of the evaluator do what the model's do: maps. -/
import Derived.Test.YtbecnapcgehliaaGreatDoorGevX3
namespace Go.Gev
open Go.RowKit

/-! ### entries -/
theorem ME.len {ρ : Ren} {es es' : List MapEntry} (m : ME ρ es es') : es.length = es'.length := by
  induction m with
  | nil => rfl
  | cons _ _ _ _ ih => simp [ih]
theorem ME.snoc {ρ : Ren} {es es' : List MapEntry} (m : ME ρ es es') {e e' : MapEntry} (hk : e'.key = e.key) (hb : e'.born = e.born) (hv : VR ρ e.val e'.val) : ME ρ (es ++ [e]) (es' ++ [e']) := by
  induction m with
  | nil => exact .cons hk hb hv .nil
  | cons h1 h2 h3 _ ih => exact .cons h1 h2 h3 ih
theorem ME.setVal {ρ : Ren} {es es' : List MapEntry} (m : ME ρ es es') {v v' : Value} (hv : VR ρ v v') : ∀ i, ME ρ (Gev.setVal v i es) (es'.modify i fun e => { e with val := v' }) := by
  induction m with
  | nil => intro i; cases i <;> exact .nil
  | cons h1 h2 h3 t ih =>
    intro i
    cases i with
    | zero => exact .cons h1 h2 hv t
    | succ i => exact .cons h1 h2 h3 (ih i)
theorem ME.dropAt {ρ : Ren} {es es' : List MapEntry} (m : ME ρ es es') : ∀ i, ME ρ (Gev.dropAt i es) (es'.eraseIdx i) := by
  induction m with
  | nil => intro i; cases i <;> exact .nil
  | cons h1 h2 h3 t ih =>
    intro i
    cases i with
    | zero => exact t
    | succ i => exact .cons h1 h2 h3 (ih i)

theorem ba_beq (s t : ByteArray) : (s == t) = true ↔ s = t := by
  cases s; cases t
  rename_i a b
  show (a == b) = true ↔ _
  rw [beq_iff_eq]
  constructor
  · rintro rfl; rfl
  · intro e; injection e
theorem eqL_iff : ∀ {a b : List UInt8}, eqL a b = true ↔ a = b := by
  intro a
  induction a with
  | nil => intro b; cases b <;> simp [eqL]
  | cons x xs ih =>
    intro b
    cases b with
    | nil => simp [eqL]
    | cons y ys =>
      simp only [eqL]
      cases h : Nat.beq x.toNat y.toNat with
      | true =>
        have : x = y := UInt8.toNat_inj.1 (Nat.eq_of_beq_eq_true h)
        subst this
        simp [ih]
      | false =>
        have : x ≠ y := fun e => by subst e; rw [Nat.beq_refl] at h; cases h
        simp [this]
/-- a key against another -/
theorem eqKey_now {kd : TypeDesc} {b : Bool} (hkd : (b = true ∧ ∃ kk, kd = .int kk) ∨ (b = false ∧ kd = .string)) {k y : Value} (hk : keyish b k = true) {r : Bool} (h : eqKey k y = some r) : Instr.sameNow kd k y = some r ∧ (r = true → y = k) := by
  cases k <;> try (exact absurd hk Bool.false_ne_true)
  case int kk n =>
    have hb : b = true := hk
    subst hb
    rcases hkd with ⟨_, kk2, rfl⟩ | ⟨h0, _⟩
    · cases y <;> try (simp [eqKey, eqI2] at h; done)
      rename_i k3 m
      simp only [eqKey, eqI2] at h
      cases hkn : Nat.beq (kn kk) (kn k3) with
      | false => rw [hkn] at h; cases h
      | true =>
        rw [hkn] at h
        injection h with h
        have hk3 : kk = k3 := by
          have := Nat.eq_of_beq_eq_true hkn
          revert this
          cases kk <;> cases k3 <;> simp [kn]
        subst hk3
        have he : eqI n m = (n == m) := by
          cases n <;> cases m <;> simp only [eqI]
          · rename_i p q
            rw [Bool.eq_iff_iff]; simp; omega
          · rfl
          · rfl
          · rename_i p q
            rw [Bool.eq_iff_iff]; simp
        subst h
        simp only [Instr.sameNow, if_true]
        rw [he]
        exact ⟨rfl, fun e => by rw [eq_of_beq e]⟩
    · cases h0
  case string s =>
    have hb : notB b = true := hk
    have hb : b = false := by cases b <;> first | rfl | cases hb
    subst hb
    rcases hkd with ⟨h0, _⟩ | ⟨_, rfl⟩
    · cases h0
    · cases y <;> try (simp [eqKey, eqS2] at h; done)
      rename_i t
      simp only [eqKey, eqS2, Option.some.injEq] at h
      have he : eqL s.data.toList t.data.toList = (s == t) := by
        rw [Bool.eq_iff_iff, eqL_iff, ba_beq]
        constructor
        · intro e
          have : s.data = t.data := Array.ext' e
          cases s; cases t; simp_all
        · rintro rfl; rfl
      subst h
      simp only [Instr.sameNow]
      rw [he]
      exact ⟨rfl, fun e => by rw [(ba_beq _ _).1 e]⟩
theorem findM_now {ρ : Ren} {kd : TypeDesc} {b : Bool} (hkd : (b = true ∧ ∃ kk, kd = .int kk) ∨ (b = false ∧ kd = .string)) {k : Value} (hk : keyish b k = true) {es es' : List MapEntry} (m : ME ρ es es') : ∀ (i : Nat) (r : Option (Nat × Value)), findM k es i = some r →
    (r = none ∧ Instr.findNow kd k es' i = some none) ∨ (∃ j v v', r = some (j, v) ∧ Instr.findNow kd k es' i = some (some (j, v')) ∧ VR ρ v v' ∧ i ≤ j ∧ ∃ e, es'[j - i]? = some e ∧ e.key = k) := by
  induction m with
  | nil => intro i r h; simp only [findM, Option.some.injEq] at h; subst h; exact .inl ⟨rfl, rfl⟩
  | @cons e e' es es' h1 h2 h3 t ih =>
    intro i r h
    simp only [findM] at h
    cases hq : eqKey k e.key with
    | none => rw [hq] at h; cases h
    | some q =>
      rw [hq] at h
      obtain ⟨hs, hy⟩ := eqKey_now hkd hk hq
      rw [← h1] at hs hy
      cases q with
      | true =>
        simp only [Option.some.injEq] at h
        subst h
        refine .inr ⟨i, e.val, e'.val, rfl, ?_, h3, Nat.le_refl _, e', by simp, hy rfl⟩
        simp only [Instr.findNow, hs]
      | false =>
        simp only at h
        have hf : Instr.findNow kd k (e' :: es') i = Instr.findNow kd k es' (i + 1) := by simp only [Instr.findNow, hs]
        rcases ih (i + 1) r h with ⟨q1, q2⟩ | ⟨j, v, v', q1, q2, q3, q4, e2, q5, q6⟩
        · exact .inl ⟨q1, hf.trans q2⟩
        · refine .inr ⟨j, v, v', q1, hf.trans q2, q3, by omega, e2, ?_, q6⟩
          rw [show j - i = (j - (i + 1)) + 1 from by omega, List.getElem?_cons_succ]
          exact q5

/-! ### maps in whatever order -/
theorem MK.len {ρ : Ren} {es es' : List MapEntry} (m : MK ρ es es') : es.length = es'.length := by
  induction m with
  | nil => rfl
  | cons _ _ _ ih => simp [ih]
theorem MK.keys {ρ : Ren} {es es' : List MapEntry} (m : MK ρ es es') : es'.map (·.key) = es.map (·.key) := by
  induction m with
  | nil => rfl
  | cons hk _ _ ih => rw [List.map_cons, List.map_cons, hk, ih]
theorem MK.snoc {ρ : Ren} {es es' : List MapEntry} (m : MK ρ es es') {e e' : MapEntry} (hk : e'.key = e.key) (hv : VR ρ e.val e'.val) : MK ρ (es ++ [e]) (es' ++ [e']) := by
  induction m with
  | nil => exact .cons hk hv .nil
  | cons h1 h2 _ ih => exact .cons h1 h2 ih
theorem MK.setVal {ρ : Ren} {es es' : List MapEntry} (m : MK ρ es es') {v v' : Value} (hv : VR ρ v v') : ∀ i, MK ρ (Gev.setVal v i es) (es'.modify i fun e => { e with val := v' }) := by
  induction m with
  | nil => intro i; cases i <;> exact .nil
  | cons h1 h2 t ih =>
    intro i
    cases i with
    | zero => exact .cons h1 hv t
    | succ i => exact .cons h1 h2 (ih i)
theorem MK.dropAt {ρ : Ren} {es es' : List MapEntry} (m : MK ρ es es') : ∀ i, MK ρ (Gev.dropAt i es) (es'.eraseIdx i) := by
  induction m with
  | nil => intro i; cases i <;> exact .nil
  | cons h1 h2 t ih =>
    intro i
    cases i with
    | zero => exact t
    | succ i => exact .cons h1 h2 (ih i)
theorem MK.get {ρ : Ren} {es es' : List MapEntry} (m : MK ρ es es') : ∀ {j : Nat} {e : MapEntry}, es[j]? = some e → ∃ e', es'[j]? = some e' ∧ e'.key = e.key ∧ VR ρ e.val e'.val := by
  induction m with
  | nil => intro j e h; simp at h
  | @cons a a' as as' h1 h2 t ih =>
    intro j e h
    cases j with
    | zero => simp only [List.getElem?_cons_zero, Option.some.injEq] at h; subst h; exact ⟨a', by simp, h1, h2⟩
    | succ j => simp only [List.getElem?_cons_succ] at h ⊢; exact ih h
theorem setVal_mem {v : Value} : ∀ {es : List MapEntry} {i : Nat} {e : MapEntry}, e ∈ Gev.setVal v i es → ∃ e0 ∈ es, e.born = e0.born := by
  intro es
  induction es with
  | nil => intro i e h; cases i <;> cases h
  | cons a t ih =>
    intro i e h
    cases i with
    | zero =>
      rcases List.mem_cons.1 h with rfl | h
      · exact ⟨a, List.mem_cons_self, rfl⟩
      · exact ⟨e, List.mem_cons_of_mem _ h, rfl⟩
    | succ i =>
      rcases List.mem_cons.1 h with rfl | h
      · exact ⟨e, List.mem_cons_self, rfl⟩
      · obtain ⟨e0, h1, h2⟩ := ih h
        exact ⟨e0, List.mem_cons_of_mem _ h1, h2⟩
theorem dropAt_mem : ∀ {es : List MapEntry} {i : Nat} {e : MapEntry}, e ∈ Gev.dropAt i es → e ∈ es := by
  intro es
  induction es with
  | nil => intro i e h; cases i <;> cases h
  | cons a t ih =>
    intro i e h
    cases i with
    | zero => exact List.mem_cons_of_mem _ h
    | succ i =>
      rcases List.mem_cons.1 h with rfl | h
      · exact List.mem_cons_self
      · exact List.mem_cons_of_mem _ (ih h)
theorem ME.setBorn {es : List MapEntry} {v : Value} {i : Nat} {q : Nat → Prop} (h : ∀ e ∈ es, q e.born) : ∀ e ∈ Gev.setVal v i es, q e.born := fun e he => by
  obtain ⟨e0, h1, h2⟩ := setVal_mem he
  rw [h2]; exact h e0 h1
theorem pull_perm {α : Type} : ∀ {l : List α} {j : Nat} {e : α}, l[j]? = some e → l.Perm (e :: l.eraseIdx j) := by
  intro l
  induction l with
  | nil => intro j e h; simp at h
  | cons a t ih =>
    intro j e h
    cases j with
    | zero => simp only [List.getElem?_cons_zero, Option.some.injEq] at h; subst h; exact List.Perm.refl _
    | succ j =>
      simp only [List.getElem?_cons_succ] at h
      exact ((ih h).cons a).trans (List.Perm.swap e a _)
theorem modify_pull {α : Type} {f : α → α} : ∀ {l : List α} {j : Nat} {e : α}, l[j]? = some e → (l.modify j f).Perm (f e :: l.eraseIdx j) := by
  intro l
  induction l with
  | nil => intro j e h; simp at h
  | cons a t ih =>
    intro j e h
    cases j with
    | zero => simp only [List.getElem?_cons_zero, Option.some.injEq] at h; subst h; exact List.Perm.refl _
    | succ j =>
      simp only [List.getElem?_cons_succ] at h
      exact ((ih h).cons a).trans (List.Perm.swap (f e) a _)
theorem map_modify_val {β : Type} {g : MapEntry → β} {v : Value} (hg : ∀ e : MapEntry, g { e with val := v } = g e) : ∀ (l : List MapEntry) (j : Nat), (l.modify j fun e => { e with val := v }).map g = l.map g := by
  intro l
  induction l with
  | nil => intro j; cases j <;> rfl
  | cons a t ih =>
    intro j
    cases j with
    | zero => show g { a with val := v } :: t.map g = _; rw [hg]; rfl
    | succ j => show g a :: (t.modify j _).map g = _; rw [ih]; rfl
theorem mem_of_map {β : Type} {g : MapEntry → β} {l l2 : List MapEntry} (h : l2.map g = l.map g) {e : MapEntry} (he : e ∈ l2) : ∃ e0 ∈ l, g e0 = g e := by
  have : g e ∈ l.map g := by rw [← h]; exact List.mem_map_of_mem he
  obtain ⟨e0, h1, h2⟩ := List.mem_map.1 this
  exact ⟨e0, h1, h2⟩
theorem Nice.setVal {es : List MapEntry} {cl : Nat} (n : Nice es cl) (v : Value) (j : Nat) : Nice (es.modify j fun e => { e with val := v }) cl := by
  have hb := map_modify_val (g := (·.born)) (v := v) (fun _ => rfl) es j
  have hk := map_modify_val (g := (·.key)) (v := v) (fun _ => rfl) es j
  refine ⟨fun e he => ?_, by rw [hb]; exact n.nb, by rw [hk]; exact n.nk, ?_⟩
  · obtain ⟨e0, h1, h2⟩ := mem_of_map hb he
    have h2 : e0.born = e.born := h2
    rw [← h2]; exact n.lt e0 h1
  · rcases n.ks with h | h
    · refine .inl fun e he => ?_
      obtain ⟨e0, h1, h2⟩ := mem_of_map hk he
      have h2 : e0.key = e.key := h2
      rw [← h2]; exact h e0 h1
    · refine .inr fun e he => ?_
      obtain ⟨e0, h1, h2⟩ := mem_of_map hk he
      have h2 : e0.key = e.key := h2
      rw [← h2]; exact h e0 h1
theorem Nice.sub {es es2 : List MapEntry} {cl : Nat} (n : Nice es cl) (h : es2.Sublist es) : Nice es2 cl :=
  ⟨fun e he => n.lt e (h.subset he), n.nb.sublist (h.map _), n.nk.sublist (h.map _), n.ks.imp (fun q e he => q e (h.subset he)) fun q e he => q e (h.subset he)⟩
theorem nodup_inj {α β : Type} {g : α → β} : ∀ {l : List α}, (l.map g).Nodup → ∀ x ∈ l, ∀ y ∈ l, g x = g y → x = y := by
  intro l
  induction l with
  | nil => intro _ x hx; cases hx
  | cons a t ih =>
    intro h x hx y hy e
    rw [List.map_cons, List.nodup_cons] at h
    rcases List.mem_cons.1 hx with h1 | h1 <;> rcases List.mem_cons.1 hy with h2 | h2
    · rw [h1, h2]
    · exact absurd (show g a ∈ t.map g from by rw [← h1, e]; exact List.mem_map_of_mem h2) h.1
    · exact absurd (show g a ∈ t.map g from by rw [← h2, ← e]; exact List.mem_map_of_mem h1) h.1
    · exact ih h.2 x h1 y h2 e
theorem eqKey_self {b : Bool} {k : Value} (hk : keyish b k = true) : eqKey k k = some true := by
  cases k <;> try cases hk
  · rename_i kk n
    have h1 : Nat.beq (kn kk) (kn kk) = true := Nat.beq_refl _
    have h2 : eqI n n = true := by cases n <;> exact Nat.beq_refl _
    simp only [eqKey, eqI2, h1, h2]
  · rename_i s
    simp only [eqKey, eqS2]
    rw [eqL_iff.2 rfl]
/-- keys that are of one kind are held against each other -/
theorem eqKey_all {k : Value} {es : List MapEntry} (hks : (∀ e ∈ es, ∃ n, e.key = .int .i64 n) ∨ (∀ e ∈ es, ∃ s, e.key = .string s)) {e0 : MapEntry} (h0 : e0 ∈ es) {q : Bool} (hq : eqKey k e0.key = some q) : ∀ e ∈ es, ∃ q, eqKey k e.key = some q := by
  intro e he
  rcases hks with h | h
  · obtain ⟨n0, hn0⟩ := h e0 h0
    obtain ⟨n, hn⟩ := h e he
    rw [hn0] at hq
    rw [hn]
    cases k <;> try cases hq
    rename_i kk m
    simp only [eqKey, eqI2] at hq ⊢
    cases hkn : Nat.beq (kn kk) (kn .i64) with
    | false => rw [hkn] at hq; cases hq
    | true => exact ⟨_, rfl⟩
  · obtain ⟨n0, hn0⟩ := h e0 h0
    obtain ⟨n, hn⟩ := h e he
    rw [hn0] at hq
    rw [hn]
    cases k <;> try (first | (cases hq; done) | (simp [eqKey] at hq; done))
    exact ⟨_, rfl⟩
theorem findM_tot {k : Value} : ∀ {es : List MapEntry}, (∀ e ∈ es, ∃ q, eqKey k e.key = some q ∧ (q = true ↔ e.key = k)) → ∀ i,
    ((∀ e ∈ es, e.key ≠ k) ∧ findM k es i = some none) ∨ ∃ j e, es[j]? = some e ∧ e.key = k ∧ findM k es i = some (some (i + j, e.val)) := by
  intro es
  induction es with
  | nil => intro _ i; exact .inl ⟨fun e h => (by cases h), rfl⟩
  | cons a t ih =>
    intro h i
    obtain ⟨q, h1, h2⟩ := h a List.mem_cons_self
    cases q with
    | true => exact .inr ⟨0, a, by simp, h2.1 rfl, by simp [findM, h1]⟩
    | false =>
      have hne : a.key ≠ k := fun e => by have := h2.2 e; cases this
      have hf : findM k (a :: t) i = findM k t (i + 1) := by simp [findM, h1]
      rcases ih (fun e he => h e (List.mem_cons_of_mem _ he)) (i + 1) with ⟨q1, q2⟩ | ⟨j, e, q1, q2, q3⟩
      · refine .inl ⟨fun e he => ?_, hf.trans q2⟩
        rcases List.mem_cons.1 he with rfl | he
        · exact hne
        · exact q1 e he
      · exact .inr ⟨j + 1, e, by simpa using q1, q2, by rw [hf, q3]; congr 3; omega⟩
theorem findNow_tot {kd : TypeDesc} {k : Value} : ∀ {es : List MapEntry}, (∀ e ∈ es, ∃ q, Instr.sameNow kd k e.key = some q ∧ (q = true ↔ e.key = k)) → ∀ i,
    ((∀ e ∈ es, e.key ≠ k) ∧ Instr.findNow kd k es i = some none) ∨ ∃ j e, es[j]? = some e ∧ e.key = k ∧ Instr.findNow kd k es i = some (some (i + j, e.val)) := by
  intro es
  induction es with
  | nil => intro _ i; exact .inl ⟨fun e h => (by cases h), rfl⟩
  | cons a t ih =>
    intro h i
    obtain ⟨q, h1, h2⟩ := h a List.mem_cons_self
    cases q with
    | true => exact .inr ⟨0, a, by simp, h2.1 rfl, by simp [Instr.findNow, h1]⟩
    | false =>
      have hne : a.key ≠ k := fun e => by have := h2.2 e; cases this
      have hf : Instr.findNow kd k (a :: t) i = Instr.findNow kd k t (i + 1) := by simp [Instr.findNow, h1]
      rcases ih (fun e he => h e (List.mem_cons_of_mem _ he)) (i + 1) with ⟨q1, q2⟩ | ⟨j, e, q1, q2, q3⟩
      · refine .inl ⟨fun e he => ?_, hf.trans q2⟩
        rcases List.mem_cons.1 he with rfl | he
        · exact hne
        · exact q1 e he
      · exact .inr ⟨j + 1, e, by simpa using q1, q2, by rw [hf, q3]; congr 3; omega⟩
theorem MR.len {ρ : Ren} {es es' : List MapEntry} {cl : Nat} (m : MR ρ es es' cl) : es.length = es'.length := by
  rcases m with m | ⟨_, _, es'', c, d⟩
  · exact m.1.len
  · rw [d.len, c.length_eq]
/-- what is there, and what becomes of it -/
theorem MR.find {ρ : Ren} {kd : TypeDesc} {b : Bool} (hkd : (b = true ∧ ∃ kk, kd = .int kk) ∨ (b = false ∧ kd = .string)) {k : Value} (hk : keyish b k = true) {es es' : List MapEntry} {cl : Nat} (m : MR ρ es es' cl) {r : Option (Nat × Value)} (hr : findM k es 0 = some r) :
    (r = none ∧ Instr.findNow kd k es' 0 = some none ∧ ∀ v v', VR ρ v v' → (isBig es = true → MR ρ (es ++ [⟨k, v, 1000000000000⟩]) (es' ++ [⟨k, v', cl⟩]) (cl + 1)) ∧ (isBig es = false → cl < 1000000000000 → MR ρ (es ++ [⟨k, v, cl⟩]) (es' ++ [⟨k, v', cl⟩]) (cl + 1))) ∨
    ∃ j j' v v', r = some (j, v) ∧ Instr.findNow kd k es' 0 = some (some (j', v')) ∧ VR ρ v v' ∧ (∃ e, es'[j']? = some e ∧ e.key = k) ∧
      (∀ v2 v2', VR ρ v2 v2' → MR ρ (Gev.setVal v2 j es) (es'.modify j' fun e => { e with val := v2' }) cl) ∧ MR ρ (Gev.dropAt j es) (es'.eraseIdx j') cl := by
  rcases m with ⟨m, hlt⟩ | ⟨hbig, nice, es'', hp, mk⟩
  · rcases findM_now hkd hk m 0 r hr with ⟨rfl, q2⟩ | ⟨j, v, v', rfl, q2, q3, _, e, q5, q6⟩
    · refine .inl ⟨rfl, q2, fun v v' hv => ⟨fun hb => ?_, fun _ hcl => .inl ⟨m.snoc rfl rfl hv, fun e he => ?_⟩⟩⟩
      · obtain ⟨e, t, rfl, h1⟩ := isBig_true hb
        have := hlt e List.mem_cons_self
        omega
      · rcases List.mem_append.1 he with he | he
        · exact hlt e he
        · rw [List.mem_singleton.1 he]; exact hcl
    · exact .inr ⟨j, j, v, v', rfl, q2, q3, ⟨e, by simpa using q5, q6⟩, fun v2 v2' hv => .inl ⟨m.setVal hv j, ME.setBorn (q := fun n => n < 1000000000000) hlt⟩, .inl ⟨m.dropAt j, fun e he => hlt e (dropAt_mem he)⟩⟩
  · cases es with
    | nil =>
      cases mk
      have := List.nil_perm.1 hp
      subst this
      simp only [findM, Option.some.injEq] at hr
      subst hr
      refine .inl ⟨rfl, rfl, fun v v' hv => ⟨fun hb => (by cases hb), fun _ hcl => .inl ⟨.cons rfl rfl hv .nil, fun e he => ?_⟩⟩⟩
      rw [List.mem_singleton.1 he]; exact hcl
    | cons e0 t =>
      obtain ⟨q0, hq0⟩ : ∃ q, eqKey k e0.key = some q := by
        cases hq : eqKey k e0.key with
        | none => simp [findM, hq] at hr
        | some q => exact ⟨q, rfl⟩
      obtain ⟨e0', g1, g2, _⟩ := mk.get (j := 0) (e := e0) (by simp)
      have hm0 : e0' ∈ es' := hp.subset (List.mem_of_getElem? g1)
      have hall := eqKey_all nice.ks hm0 (by rw [g2]; exact hq0)
      have htrue : ∀ {y : Value} {q : Bool}, eqKey k y = some q → (q = true ↔ y = k) := fun {y q} hy => by
        refine ⟨(eqKey_now hkd hk hy).2, fun e => ?_⟩
        subst e
        rw [eqKey_self hk] at hy
        exact (Option.some.inj hy).symm
      have hkeys := mk.keys
      have hesall : ∀ e ∈ e0 :: t, ∃ q, eqKey k e.key = some q ∧ (q = true ↔ e.key = k) := fun e he => by
        obtain ⟨e2, h1, h2⟩ := mem_of_map (g := (·.key)) hkeys.symm he
        have h2 : e2.key = e.key := h2
        obtain ⟨q, hq⟩ := hall e2 (hp.subset h1)
        rw [h2] at hq
        exact ⟨q, hq, htrue hq⟩
      have hnow : ∀ e ∈ es', ∃ q, Instr.sameNow kd k e.key = some q ∧ (q = true ↔ e.key = k) := fun e he => by
        obtain ⟨q, hq⟩ := hall e he
        exact ⟨q, (eqKey_now hkd hk hq).1, htrue hq⟩
      have hB : isBig (e0 :: t) = true := Nat.ble_eq_true_of_le (hbig e0 List.mem_cons_self)
      rcases findM_tot hesall 0 with ⟨q1, q2⟩ | ⟨j, e, q1, q2, q3⟩
      · rw [q2] at hr
        injection hr with hr
        subst hr
        have hno : ∀ e ∈ es', e.key ≠ k := fun e he => by
          have : e ∈ es'' := hp.symm.subset he
          obtain ⟨e2, h1, h2⟩ := mem_of_map (g := (·.key)) hkeys this
          have h2 : e2.key = e.key := h2
          rw [← h2]; exact q1 e2 h1
        rcases findNow_tot hnow 0 with ⟨_, p2⟩ | ⟨j', e', p1, p2, _⟩
        · refine .inl ⟨rfl, p2, fun v v' hv => ⟨fun _ => .inr ⟨fun e he => ?_, ⟨fun e he => ?_, ?_, ?_, ?_⟩, es'' ++ [⟨k, v', cl⟩], hp.append_right _, mk.snoc rfl hv⟩, fun hb => (by rw [hB] at hb; cases hb)⟩⟩
          · rcases List.mem_append.1 he with he | he
            · exact hbig e he
            · rw [List.mem_singleton.1 he]; exact Nat.le_refl _
          · rcases List.mem_append.1 he with he | he
            · exact Nat.lt_succ_of_lt (nice.lt e he)
            · rw [List.mem_singleton.1 he]; exact Nat.lt_succ_self _
          · rw [List.map_append, List.map_singleton, List.nodup_append]
            refine ⟨nice.nb, by simp, fun a ha c hc => ?_⟩
            obtain ⟨e, he, rfl⟩ := List.mem_map.1 ha
            rw [List.mem_singleton.1 hc]
            exact Nat.ne_of_lt (nice.lt e he)
          · rw [List.map_append, List.map_singleton, List.nodup_append]
            refine ⟨nice.nk, by simp, fun a ha c hc => ?_⟩
            obtain ⟨e, he, rfl⟩ := List.mem_map.1 ha
            rw [List.mem_singleton.1 hc]
            exact hno e he
          · rcases nice.ks with h | h
            · refine .inl fun e he => ?_
              rcases List.mem_append.1 he with he | he
              · exact h e he
              · rw [List.mem_singleton.1 he]
                obtain ⟨n, hn⟩ := h e0' hm0
                rw [← g2, hn] at hq0
                obtain ⟨kk, a, rfl⟩ : ∃ kk a, k = .int kk a := by
                  cases k <;> try (first | (cases hq0; done) | (simp [eqKey] at hq0; done))
                  exact ⟨_, _, rfl⟩
                simp only [eqKey, eqI2] at hq0
                cases hkn : Nat.beq (kn kk) (kn .i64) with
                | false => rw [hkn] at hq0; cases hq0
                | true =>
                  have hk3 : kk = .i64 := by
                    have := Nat.eq_of_beq_eq_true hkn
                    revert this
                    cases kk <;> simp [kn]
                  exact ⟨a, by rw [hk3]⟩
            · refine .inr fun e he => ?_
              rcases List.mem_append.1 he with he | he
              · exact h e he
              · rw [List.mem_singleton.1 he]
                obtain ⟨n, hn⟩ := h e0' hm0
                rw [← g2, hn] at hq0
                cases k <;> try (first | (cases hq0; done) | (simp [eqKey] at hq0; done))
                exact ⟨_, rfl⟩
        · exact absurd p2 (hno e' (List.mem_of_getElem? p1))
      · rw [q3] at hr
        injection hr with hr
        subst hr
        obtain ⟨e2, r1, r2, r3⟩ := mk.get q1
        have hm2 : e2 ∈ es' := hp.subset (List.mem_of_getElem? r1)
        rcases findNow_tot hnow 0 with ⟨p1, _⟩ | ⟨j', e3, p1, p2, p3⟩
        · exact absurd (r2.trans q2) (p1 e2 hm2)
        · have he : e3 = e2 := nodup_inj nice.nk e3 (List.mem_of_getElem? p1) e2 hm2 (p2.trans (r2.trans q2).symm)
          subst he
          have hpe : (es''.eraseIdx j).Perm (es'.eraseIdx j') := ((pull_perm r1).symm.trans (hp.trans (pull_perm p1))).cons_inv
          rw [Nat.zero_add] at p3
          refine .inr ⟨j, j', e.val, e3.val, by rw [Nat.zero_add], p3, r3, ⟨e3, p1, p2⟩, fun v2 v2' hv => .inr ⟨ME.setBorn (q := fun n => 1000000000000 ≤ n) hbig, nice.setVal _ _, _, ?_, mk.setVal hv j⟩, .inr ⟨fun e he => hbig e (dropAt_mem he), nice.sub (List.eraseIdx_sublist _ _), _, hpe, mk.dropAt j⟩⟩
          exact (modify_pull (f := fun e : MapEntry => { e with val := v2' }) r1).trans ((hpe.cons _).trans (modify_pull (f := fun e : MapEntry => { e with val := v2' }) p1).symm)

/-! ### a map's block is another -/
theorem step_mset {B : Nat} {ρ : Ren} {h : Hs} {w : World} (R : HR B ρ h w) {id cl cl2 : Nat} {es es2 : List MapEntry} {arr2 : Array MapEntry} (hb : h.hp.get id = some (.mp es cl)) {H : Host} (he : ρ id = some H) (hm : MR ρ es2 arr2.toList cl2) :
    St B ρ h w ρ ⟨h.hp.set id (some (.mp es2 cl2)), h.nx, minN h.lo id⟩ { w with heap := w.heap.setIfInBounds H.blk (.map arr2 cl2) } := by
  obtain ⟨H0, arr, he0, hB, hh, hme⟩ := R.has id _ hb
  rw [he] at he0
  injection he0 with he0
  subst he0
  have hlt : H.blk < w.heap.size := (Array.getElem?_eq_some_iff.1 hh).1
  have hget : ∀ j, (h.hp.set id (some (.mp es2 cl2))).get j = if id = j then some (.mp es2 cl2) else h.hp.get j := fun j => Tr.get_set _ _ _ _
  have hrw : ∀ j b, (h.hp.set id (some (.mp es2 cl2))).get j = some b → ∃ b0, h.hp.get j = some b0 ∧ isRw b0 = isRw b ∧ (j ≠ id → b0 = b) := fun j b hj => by
    rw [hget] at hj
    split at hj
    · rename_i e'
      subst e'
      injection hj with hj
      subst hj
      exact ⟨_, hb, rfl, fun h => absurd rfl h⟩
    · exact ⟨b, hj, rfl, fun _ => rfl⟩
  have hfar : ∀ k, k ≠ H.blk → (w.heap.setIfInBounds H.blk (.map arr2 cl2))[k]? = w.heap[k]? := fun k hk => by
    rw [Array.getElem?_setIfInBounds, if_neg (fun e => hk e.symm)]
  refine ⟨⟨by simpa using R.base, R.dom, fun j b hj => ?_, fun j j' b b' K K' hj hj' hne hrb ek ek' => ?_⟩, Nat.le_refl _, Ren.le_refl _, fun _ _ => rfl, ⟨rfl, rfl, rfl, by simp, fun k hk => hfar k (by omega)⟩, by simp, minN_le_left _ _, fun j b hj hl => ?_, fun j b hj hjlt => ?_, fun j b hj hge => (by obtain ⟨b0, hb0, _, _⟩ := hrw j b hj; have := R.lt hb0; omega), fun k hk hno => ?_, fun j K hj e' => ?_⟩
  · obtain ⟨b0, hb0, hr, hsame⟩ := hrw j b hj
    by_cases hji : j = id
    · subst hji
      rw [hget, if_pos rfl] at hj
      injection hj with hj
      subst hj
      refine ⟨H, arr2, he, hB, ?_, hm⟩
      show (w.heap.setIfInBounds H.blk (.map arr2 cl2))[H.blk]? = _
      rw [Array.getElem?_setIfInBounds, if_pos rfl, if_pos hlt]
    · have := hsame hji
      subst this
      refine (R.has j b0 hb0).mono (Ren.le_refl _) (fun K ek => hfar _ (fun e' => ?_))
      exact R.inj id j _ _ H K hb hb0 (fun h => hji h.symm) rfl he ek e'.symm
  · obtain ⟨b0, hb0, hr, _⟩ := hrw j b hj
    obtain ⟨b0', hb0', _, _⟩ := hrw j' b' hj'
    exact R.inj j j' b0 b0' K K' hb0 hb0' hne (hr.trans hrb) ek ek'
  · have hji : j ≠ id := fun e' => by subst e'; have := minN_le_right h.lo j; simp only at hl; omega
    show (h.hp.set id _).get j = _
    rw [hget, if_neg (fun e' => hji e'.symm)]
    exact hj
  · obtain ⟨b0, hb0, hr, hsame⟩ := hrw j b hj
    refine ⟨b0, hb0, hr, fun hl => hsame (fun e' => ?_)⟩
    subst e'
    have := minN_le_right h.lo j
    simp only at hl; omega
  · refine hfar k (fun e' => ?_)
    exact hno id _ H hb rfl he (minN_le_right _ _) e'.symm
  · rw [R.dom j hj] at e'; cases e'

/-- a new map -/
theorem step_mnew {B : Nat} {ρ : Ren} {h : Hs} {w : World} (R : HR B ρ h w) :
    St B ρ h w (ρ.add h.nx ⟨w.heap.size, 0, 0, 0, none⟩) ⟨h.hp.set h.nx (some (.mp [] 0)), Nat.succ h.nx, h.lo⟩ (w.alloc (.map #[] 0)) := by
  have hnx : ρ h.nx = none := R.dom _ (Nat.le_refl _)
  have hle := Ren.le_add ⟨w.heap.size, 0, 0, 0, none⟩ hnx
  have hget : ∀ j, (h.hp.set h.nx (some (.mp [] 0))).get j = if h.nx = j then some (.mp [] 0) else h.hp.get j := fun j => Tr.get_set _ _ _ _
  have hold : ∀ j b, (h.hp.set h.nx (some (.mp [] 0))).get j = some b → j ≠ h.nx → h.hp.get j = some b := fun j b hj hne => by
    rw [hget, if_neg (fun e => hne e.symm)] at hj; exact hj
  have hlt : ∀ j b, h.hp.get j = some b → ∀ L, ρ j = some L → L.blk < w.heap.size := fun j b hj L hL => by
    obtain ⟨L', e1, e2⟩ := (R.has j b hj).host_lt
    rw [hL] at e1; injection e1 with e1; subst e1; exact e2
  have hfar : ∀ k, k < w.heap.size → (w.alloc (.map #[] 0)).heap[k]? = w.heap[k]? := fun k hk => by
    show (w.heap.push _)[k]? = _
    rw [Array.getElem?_push, if_neg (by omega)]
  have hsz : (w.alloc (.map #[] 0)).heap.size = w.heap.size + 1 := by show (w.heap.push _).size = _; simp
  refine ⟨⟨by rw [hsz]; have := R.base; omega, fun j hj => ?_, fun j b hj => ?_, fun j j' b b' L L' hj hj' hne hr eL eL' => ?_⟩, Nat.le_succ _, hle, fun j hj => Ren.add_other _ _ (by omega), ⟨rfl, rfl, rfl, by rw [hsz]; omega, fun k hk => hfar k (by have := R.base; omega)⟩, by rw [hsz]; omega, Nat.le_refl _,
    fun j b hj hl => ?_, fun j b hj hjlt => ?_, fun j b hj hge => ?_, fun k hk hno => hfar k hk, fun j L hj eL => ?_⟩
  · have hj' : h.nx + 1 ≤ j := hj
    rw [Ren.add_other _ _ (by omega)]
    exact R.dom j (by omega)
  · by_cases hjn : j = h.nx
    · subst hjn
      rw [hget, if_pos rfl] at hj
      injection hj with hj
      subst hj
      refine ⟨_, #[], Ren.add_same _ _ _, R.base, ?_, .nil⟩
      show (w.heap.push _)[w.heap.size]? = _
      simp
    · exact (R.has j b (hold j b hj hjn)).mono hle (fun L eL => hfar _ (hlt j b (hold j b hj hjn) L eL))
  · by_cases e1 : j = h.nx
    · subst e1
      have h1 := hold j' b' hj' (fun e => hne e.symm)
      rw [Ren.add_same] at eL
      injection eL with eL
      subst eL
      rw [Ren.add_other _ _ (fun e => hne e.symm)] at eL'
      have := hlt j' b' h1 L' eL'
      show w.heap.size ≠ L'.blk
      omega
    · have h1 := hold j b hj e1
      rw [Ren.add_other _ _ e1] at eL
      by_cases e2 : j' = h.nx
      · subst e2
        rw [Ren.add_same] at eL'
        injection eL' with eL'
        subst eL'
        have := hlt j b h1 L eL
        show L.blk ≠ w.heap.size
        omega
      · rw [Ren.add_other _ _ e2] at eL'
        exact R.inj j j' b b' L L' h1 (hold j' b' hj' e2) hne hr eL eL'
  · show (h.hp.set h.nx _).get j = _
    have := R.lt hj
    rw [hget, if_neg (by omega)]
    exact hj
  · exact ⟨b, hold j b hj (by omega), rfl, fun _ => rfl⟩
  · by_cases e1 : j = h.nx
    · subst e1
      replace hj : (h.hp.set h.nx (some (.mp [] 0))).get h.nx = some b := hj
      rw [hget, if_pos rfl] at hj
      injection hj with hj; subst hj; rfl
    · have := R.lt (hold j b hj e1); omega
  · by_cases e1 : j = h.nx
    · subst e1
      rw [Ren.add_same] at eL
      injection eL with eL
      subst eL
      exact .inl (Nat.le_refl _)
    · rw [Ren.add_other _ _ e1] at eL
      rw [R.dom j hj] at eL; cases eL

section
variable {P : Program} {cx : Cx} {o : Oper}
theorem keyT_kd {t : TypeId} {b : Bool} (h : keyT P t = some b) : ∃ kd, P.underlying t = some kd ∧ ((b = true ∧ ∃ kk, kd = .int kk) ∨ (b = false ∧ kd = .string)) := by
  unfold keyT at h
  cases hu : P.underlying t with
  | none => rw [hu] at h; cases h
  | some kd =>
    rw [hu] at h
    cases kd <;> simp only at h <;> try cases h
    · exact ⟨_, rfl, .inl ⟨rfl, _, rfl⟩⟩
    · exact ⟨_, rfl, .inr ⟨rfl, rfl⟩⟩
theorem checkKey_run {t : TypeId} {b : Bool} (h : keyT P t = some b) (e : Bool) (n : Nat) (v : Value) (w : World) : (Instr.checkKey e (n + 1) t v).run P w = .ok () w := by
  obtain ⟨kd, hu, hk⟩ := keyT_kd h
  rcases hk with ⟨_, kk, rfl⟩ | ⟨_, rfl⟩ <;> (cases v <;> simp [Instr.checkKey, run_underlying hu])
theorem findKey_run {t : TypeId} {kd : TypeDesc} (hu : P.underlying t = some kd) {k : Value} {es : List MapEntry} {r : Option (Nat × Value)} (hf : Instr.findNow kd k es 0 = some r) (w : World) : (Instr.findKey t k es).run P w = .ok r w := by
  simp [Instr.findKey, run_underlying hu, hf]

theorem okVal_VR {ρ : Ren} {t : TypeId} {z : Value} (h : zeroV P t = some z) : VR ρ z z ∧ ∃ i, P.info? t = some i ∧ i.zero = some z := by
  unfold zeroV at h
  cases hi : P.info? t with
  | none => rw [hi] at h; cases h
  | some i =>
    rw [hi] at h
    cases hz : i.zero with
    | none => simp only [hz] at h; cases h
    | some z0 =>
      simp only [hz] at h
      cases ho : okC z0 with
      | false => rw [ho] at h; cases h
      | true =>
        rw [ho] at h
        injection h with h
        subst h
        exact ⟨okC_VR ho, i, rfl, hz⟩
theorem lkV_VR {ρ : Ren} {z : Value} {ok : Bool} {r r' : Option (Nat × Value)} (hz : VR ρ z z) (h : (r = none ∧ r' = none) ∨ ∃ j j' v v', r = some (j, v) ∧ r' = some (j', v') ∧ VR ρ v v') : VR ρ (lkV z ok r) (lkV z ok r') := by
  have two : ∀ x y, VR ρ x y → ∀ b : Bool, VR ρ (.tuple #[x, .bool b]) (.tuple #[y, .bool b]) := fun x y hxy b =>
    VR.tuple_of (xs := [x, .bool b]) (ys := [y, .bool b]) (.cons hxy (.cons (.bool b) .nil))
  rcases h with ⟨rfl, rfl⟩ | ⟨j, j', v, v', rfl, rfl, hv⟩
  · cases ok
    · exact hz
    · exact two _ _ hz _
  · cases ok
    · exact hv
    · exact two _ _ hv _
theorem snd_lookup {t kt et : TypeId} {b ok : Bool} {m k : Operand} {m' k' : GX} {z : Value} (ho : o.op = .lookup t m k ok) (ht : P.underlying t = some (.map kt et)) (hkt : keyT P kt = some b) (hz : zeroV P et = some z) (hm : gx cx m = some m') (hk : gx cx k = some k') : Snd P cx o (oLookup b z ok m' k') :=
  snd_still fun B ρ en h w a v h' E R eg => by
    have hmv := gx_VR E hm
    have hkv := gx_VR E hk
    obtain ⟨e1, rfl⟩ := ret1_some (show ret1 h (lk1 b h z ok (ev en k') (ev en m')) = _ from eg)
    refine ⟨rfl, ?_⟩
    obtain ⟨hzz, iz, hiz, hiz0⟩ := okVal_VR (ρ := ρ) hz
    obtain ⟨kd, hu, hkd⟩ := keyT_kd hkt
    generalize hqm : a.eval m = um at hmv
    generalize hqk : a.eval k = uk at hkv
    generalize ev en m' = vm at hmv e1
    generalize ev en k' = vk at hkv e1
    have hzr : ∀ w : World, (zeroValue et).run P w = .ok z w := fun w => by simp [zeroValue, info_run hiz, hiz0]
    cases hmv with
    | nilmap =>
      simp only [lk1, Option.some.injEq] at e1
      subst e1
      refine ⟨lkV z ok none, ?_, lkV_VR hzz (.inl ⟨rfl, rfl⟩)⟩
      have hfk := findKey_run (P := P) hu (k := uk) (es := []) (r := none) rfl w
      have hck : (Instr.checkKey true 10000 kt uk).run P w = .ok () w := checkKey_run (P := P) hkt true 9999 uk w
      cases ok <;> simp [execOp, ho, hqm, hqk, Instr.lookup, under_run ht, hck, hfk, hzr, lkV]
    | map id H hH =>
      simp only [lk1] at e1
      cases hki : keyish b vk with
      | false => rw [hki] at e1; cases e1
      | true =>
        rw [hki] at e1
        have hvk : uk = vk := by
          cases vk <;> try cases hki
          · exact hkv.int_inv
          · exact hkv.string_inv
        subst hvk
        cases hb : h'.hp.get id with
        | none => rw [hb] at e1; cases e1
        | some blk =>
          rw [hb] at e1
          cases blk with
          | row => cases e1
          | it => cases e1
          | lp => cases e1
          | mp es cl =>
            simp only [lk2] at e1
            cases hf : findM uk es 0 with
            | none => rw [hf] at e1; cases e1
            | some r =>
              rw [hf] at e1
              simp only [lkO, Option.some.injEq] at e1
              subst e1
              obtain ⟨H0, es', he0, hB, hh, hme⟩ := R.has id _ hb
              rw [hH] at he0
              injection he0 with he0
              subst he0
              have hgo : (getObj H.blk).run P w = .ok (.map es' cl) w := by
                simp [getObj, Sem.run, hh]
              have hck : (Instr.checkKey es'.isEmpty 10000 kt uk).run P w = .ok () w := checkKey_run (P := P) hkt es'.isEmpty 9999 uk w
              obtain ⟨r', hr', hrr⟩ : ∃ r', Instr.findNow kd uk es'.toList 0 = some r' ∧ ((r = none ∧ r' = none) ∨ ∃ j j' v v', r = some (j, v) ∧ r' = some (j', v') ∧ VR ρ v v') := by
                rcases hme.find hkd hki hf with ⟨q1, q2, _⟩ | ⟨j, j', v, v', q1, q2, q3, _⟩
                · exact ⟨none, q2, .inl ⟨q1, rfl⟩⟩
                · exact ⟨some (j', v'), q2, .inr ⟨j, j', v, v', q1, rfl, q3⟩⟩
              have hfk := findKey_run (P := P) hu hr' w
              refine ⟨lkV z ok r', ?_, lkV_VR hzz hrr⟩
              cases r' with
              | none => cases ok <;> simp [execOp, ho, hqm, hqk, Instr.lookup, under_run ht, hgo, hck, hfk, hzr, lkV]
              | some p => cases ok <;> simp [execOp, ho, hqm, hqk, Instr.lookup, under_run ht, hgo, hck, hfk, lkV]
    | _ => cases e1

theorem getMap_run {w : World} {g cl : Nat} {es : Array MapEntry} (hh : w.heap[g]? = some (.map es cl)) : (getObj g).run P w = .ok (.map es cl) w := by
  simp [getObj, Sem.run, hh]
theorem setMap_run {w : World} {g cl : Nat} {es : Array MapEntry} (hh : w.heap[g]? = some (.map es cl)) (ob : Obj) : (setObj g ob).run P w = .ok () { w with heap := w.heap.setIfInBounds g ob } := by
  simp [setObj, Sem.run, hh]
theorem sameBits_key {b : Bool} {k : Value} (hk : keyish b k = true) (n : Nat) : Instr.sameBits (n + 1) k k = true := by
  cases k <;> try cases hk
  · simp [Instr.sameBits]
  · show (_ == _) = true
    exact (ba_beq _ _).2 rfl
theorem key_same {ρ : Ren} {b : Bool} {k k' : Value} (hk : keyish b k = true) (h : VR ρ k k') : k' = k := by
  cases k <;> try cases hk
  · exact h.int_inv
  · exact h.string_inv
theorem modify_key {es : Array MapEntry} {j : Nat} {k v : Value} {e : MapEntry} (he : es[j]? = some e) (hk : e.key = k) : (es.modify j fun e => { e with key := k, val := v }).toList = es.toList.modify j fun e => { e with val := v } := by
  apply List.ext_getElem?
  intro i
  rw [Array.getElem?_toList, Array.getElem?_modify, List.getElem?_modify]
  by_cases hij : j = i
  · subst hij
    rw [if_pos rfl, Array.getElem?_toList, he]
    simp [hk]
  · rw [if_neg hij, Array.getElem?_toList]
    simp [hij]

theorem snd_mapup {t kt et : TypeId} {b : Bool} {m k v : Operand} {m' k' v' : GX} (ho : o.op = .mapUpdate t m k v ∨ o.op = .insert t m k v) (ht : P.underlying t = some (.map kt et)) (hkt : keyT P kt = some b) (hm : gx cx m = some m') (hk : gx cx k = some k') (hv : gx cx v = some v') : Snd P cx o (oMapup b m' k' v') := by
  intro B ρ en h w a r h' E R eg
  have hmv := gx_VR E hm
  have hkv := gx_VR E hk
  have hvv := gx_VR E hv
  simp only [oMapup] at eg
  obtain ⟨kd, hu, hkd⟩ := keyT_kd hkt
  generalize hqm : a.eval m = um at hmv
  generalize hqk : a.eval k = uk at hkv
  generalize hqv : a.eval v = uv at hvv
  generalize ev en m' = vm at hmv eg
  generalize ev en k' = vk at hkv eg
  generalize ev en v' = vv at hvv eg
  have hex : (execOp a.eval o).run P w = ((Instr.mapUpdate t um uk uv).run P w).andThen fun _ w => .ok .skip w := by
    rcases ho with ho | ho <;> simp [execOp, ho, hqm, hqk, hqv]
  cases hmv with
  | map id H hH =>
    simp only [mapup1] at eg
    cases hki : keyish b vk with
    | false => rw [hki] at eg; cases eg
    | true =>
      rw [hki] at eg
      have hvk := key_same hki hkv
      subst hvk
      cases hb : h.hp.get id with
      | none => rw [hb] at eg; cases eg
      | some blk =>
        rw [hb] at eg
        cases blk with
        | row => cases eg
        | it => cases eg
        | lp => cases eg
        | mp es cl =>
          simp only [mapup2] at eg
          cases hf : findM uk es 0 with
          | none => rw [hf] at eg; cases eg
          | some q =>
            rw [hf] at eg
            obtain ⟨H0, es', he0, hB, hh, hme⟩ := R.has id _ hb
            rw [hH] at he0
            injection he0 with he0
            subst he0
            have hgo := getMap_run (P := P) hh
            have hck : (Instr.checkKey false 10000 kt uk).run P w = .ok () w := checkKey_run (P := P) hkt false 9999 uk w
            rcases hme.find hkd hki hf with ⟨rfl, q2, q3⟩ | ⟨j, j', x, x', rfl, q2, _, ⟨e, q5, q6⟩, q7, _⟩
            · have hfk := findKey_run (P := P) hu q2 w
              simp only [mapup3] at eg
              have hst := setMap_run (P := P) hh (.map (es'.push { key := uk, val := uv, born := cl }) (cl + 1))
              have hrun : (execOp a.eval o).run P w = .ok .skip { w with heap := w.heap.setIfInBounds H.blk (.map (es'.push { key := uk, val := uv, born := cl }) (cl + 1)) } := by
                rw [hex]
                simp [Instr.mapUpdate, under_run ht, hgo, hck, hfk, hst]
              cases hB2 : isBig es with
              | true =>
                rw [hB2] at eg
                simp only [mapnew, setMp, Option.some.injEq, Prod.mk.injEq] at eg
                obtain ⟨rfl, rfl⟩ := eg
                exact ⟨undef, _, ρ, .inr ⟨hrun, rfl⟩, VR.undef_inv, step_mset (arr2 := es'.push { key := uk, val := uv, born := cl }) (cl2 := cl + 1) R hb hH (by rw [Array.toList_push]; exact (q3 vv uv hvv).1 hB2)⟩
              | false =>
                rw [hB2] at eg
                simp only [mapnew] at eg
                cases hcl : Nat.blt cl 1000000000000 with
                | false => rw [hcl] at eg; cases eg
                | true =>
                  rw [hcl] at eg
                  have hcl2 : cl < 1000000000000 := by
                    have : Nat.ble (cl + 1) 1000000000000 = true := hcl
                    exact Nat.le_of_ble_eq_true this
                  simp only [setMp, Option.some.injEq, Prod.mk.injEq] at eg
                  obtain ⟨rfl, rfl⟩ := eg
                  exact ⟨undef, _, ρ, .inr ⟨hrun, rfl⟩, VR.undef_inv, step_mset (arr2 := es'.push { key := uk, val := uv, born := cl }) (cl2 := cl + 1) R hb hH (by rw [Array.toList_push]; exact (q3 vv uv hvv).2 hB2 hcl2)⟩
            · have hfk := findKey_run (P := P) hu q2 w
              simp only [mapup3, setMp, Option.some.injEq, Prod.mk.injEq] at eg
              obtain ⟨rfl, rfl⟩ := eg
              have hej : es'[j']? = some e := by simpa using q5
              have hold : ((es'[j']?).map (·.key)).getD uk = uk := by rw [hej]; simp [q6]
              have hks : (Instr.keyThatStays uk uk).run P w = .ok uk w := by simp [Instr.keyThatStays, sameBits_key hki 9999]
              have hst := setMap_run (P := P) hh (.map (es'.modify j' fun e => { e with key := uk, val := uv }) cl)
              refine ⟨undef, _, ρ, .inr ⟨?_, rfl⟩, VR.undef_inv, step_mset (arr2 := es'.modify j' fun e => { e with key := uk, val := uv }) (cl2 := cl) R hb hH ?_⟩
              · rw [hex]
                simp only [Instr.mapUpdate, Sem.run_bind, under_run ht, Result.andThen_ok, hgo, hck, hfk, hold, hks, hst]
              · rw [modify_key hej q6]
                exact q7 vv uv hvv
  | nilmap => cases eg
  | _ => cases eg

theorem snd_mkmap {t kt et : TypeId} {r : Option Operand} {x' : GX} (ho : o.op = .makeMap t r) (ht : P.underlying t = some (.map kt et)) (hx : (r = none ∧ x' = .c (.int .i64 0)) ∨ ∃ x, r = some x ∧ gx cx x = some x') : Snd P cx o (oMkmap x') := by
  intro B ρ en h w a v h' E R eg
  simp only [oMkmap] at eg
  have hi : ∃ k n, ev en x' = .int k n := by
    cases hq : ev en x' <;> rw [hq] at eg <;> try cases eg
    exact ⟨_, _, rfl⟩
  obtain ⟨kk, n, hi⟩ := hi
  rw [hi] at eg
  simp only [mkmap1, Option.some.injEq, Prod.mk.injEq] at eg
  obtain ⟨rfl, rfl⟩ := eg
  refine ⟨.map (some w.heap.size), w.alloc (.map #[] 0), _, .inl ?_, .map h.nx ⟨w.heap.size, 0, 0, 0, none⟩ (Ren.add_same _ _ _), step_mnew R⟩
  rcases hx with ⟨rfl, _⟩ | ⟨x, rfl, hx⟩
  · simp [execOp, ho, Instr.makeMap]
  · have hv := gx_VR E hx
    rw [hi] at hv
    have hq := hv.int_inv
    simp [execOp, ho, Instr.makeMap, hq, under_run ht, asInt, asIntOf]

theorem snd_maplen {c : Call} {m : Operand} {m' : GX} {t kt et : TypeId} (ho : o.op = .call c) (hc : c.callee = .builtin .len) (ha : c.args = #[m]) (hat : c.argTypes[0]? = some t) (ht : P.underlying t = some (.map kt et)) (hm : gx cx m = some m') : Snd P cx o (oMaplen m') :=
  snd_still fun B ρ en h w a v h' E R eg => by
    have hmv := gx_VR E hm
    obtain ⟨e1, rfl⟩ := ret1_some (show ret1 h (maplen1 h (ev en m')) = _ from eg)
    refine ⟨rfl, ?_⟩
    generalize hqm : a.eval m = um at hmv
    generalize ev en m' = vm at hmv e1
    cases hmv with
    | nilmap =>
      simp only [maplen1, Option.some.injEq] at e1
      subst e1
      exact ⟨.int .i64 0, by simp [execOp, ho, resolve, hc, ha, invoke, builtin, Builtin.len_, hat, under_run ht, hqm, goInt], .int _ _⟩
    | map id H hH =>
      simp only [maplen1] at e1
      cases hb : h'.hp.get id with
      | none => rw [hb] at e1; cases e1
      | some blk =>
        rw [hb] at e1
        cases blk with
        | row => cases e1
        | it => cases e1
        | lp => cases e1
        | mp es cl =>
          simp only [maplen2, Option.some.injEq] at e1
          subst e1
          obtain ⟨H0, es', he0, hB, hh, hme⟩ := R.has id _ hb
          rw [hH] at he0
          injection he0 with he0
          subst he0
          have hgo := getMap_run (P := P) hh
          have hl : es'.size = es.length := by rw [hme.len]; simp
          refine ⟨.int .i64 (es.length : Int), ?_, .int _ _⟩
          simp [execOp, ho, resolve, hc, ha, invoke, builtin, Builtin.len_, hat, under_run ht, hqm, goInt, hgo, hl]
    | _ => cases e1

theorem snd_mapdel {c : Call} {m k : Operand} {m' k' : GX} {t kt et : TypeId} {b : Bool} (ho : o.op = .call c) (hc : c.callee = .builtin .delete) (ha : c.args = #[m, k]) (hat : c.argTypes[0]? = some t) (ht : P.underlying t = some (.map kt et)) (hkt : keyT P kt = some b) (hm : gx cx m = some m') (hk : gx cx k = some k') : Snd P cx o (oMapdel b m' k') := by
  intro B ρ en h w a r h' E R eg
  have hmv := gx_VR E hm
  have hkv := gx_VR E hk
  simp only [oMapdel] at eg
  obtain ⟨kd, hu, hkd⟩ := keyT_kd hkt
  generalize hqm : a.eval m = um at hmv
  generalize hqk : a.eval k = uk at hkv
  generalize ev en m' = vm at hmv eg
  generalize ev en k' = vk at hkv eg
  have hex : (execOp a.eval o).run P w = ((Builtin.delete_ c.argTypes o.type #[um, uk]).run P w).andThen fun v w => .ok (.value v) w := by
    simp [execOp, ho, resolve, hc, ha, invoke, builtin, hqm, hqk]
  cases hmv with
  | nilmap =>
    simp only [mapdel1, Option.some.injEq, Prod.mk.injEq] at eg
    obtain ⟨rfl, rfl⟩ := eg
    have hck : (Instr.checkKey true 10000 kt uk).run P w = .ok () w := checkKey_run (P := P) hkt true 9999 uk w
    refine ⟨undef, w, ρ, .inl ?_, VR.undef_inv, St.refl R⟩
    rw [hex]
    simp [Builtin.delete_, hat, under_run ht, hck]
    rfl
  | map id H hH =>
    simp only [mapdel1] at eg
    cases hki : keyish b vk with
    | false => rw [hki] at eg; cases eg
    | true =>
      rw [hki] at eg
      have hvk := key_same hki hkv
      subst hvk
      cases hb : h.hp.get id with
      | none => rw [hb] at eg; cases eg
      | some blk =>
        rw [hb] at eg
        cases blk with
        | row => cases eg
        | it => cases eg
        | lp => cases eg
        | mp es cl =>
          simp only [mapdel2] at eg
          cases hf : findM uk es 0 with
          | none => rw [hf] at eg; cases eg
          | some q =>
            rw [hf] at eg
            obtain ⟨H0, es', he0, hB, hh, hme⟩ := R.has id _ hb
            rw [hH] at he0
            injection he0 with he0
            subst he0
            have hgo := getMap_run (P := P) hh
            have hck : (Instr.checkKey es'.isEmpty 10000 kt uk).run P w = .ok () w := checkKey_run (P := P) hkt es'.isEmpty 9999 uk w
            rcases hme.find hkd hki hf with ⟨rfl, q2, _⟩ | ⟨j, j', x, x', rfl, q2, _, _, _, q7⟩
            · have hfk := findKey_run (P := P) hu q2 w
              simp only [mapdel3, setMp, Option.some.injEq, Prod.mk.injEq] at eg
              obtain ⟨rfl, rfl⟩ := eg
              have hst := setMap_run (P := P) hh (.map es' cl)
              refine ⟨undef, _, ρ, .inl ?_, VR.undef_inv, step_mset (arr2 := es') (cl2 := cl) R hb hH hme⟩
              rw [hex]
              simp [Builtin.delete_, hat, under_run ht, hgo, hck, hfk, hst]
              rfl
            · have hfk := findKey_run (P := P) hu q2 w
              simp only [mapdel3, setMp, Option.some.injEq, Prod.mk.injEq] at eg
              obtain ⟨rfl, rfl⟩ := eg
              have hst := setMap_run (P := P) hh (.map (es'.eraseIdxIfInBounds j') cl)
              refine ⟨undef, _, ρ, .inl ?_, VR.undef_inv, step_mset (arr2 := es'.eraseIdxIfInBounds j') (cl2 := cl) R hb hH ?_⟩
              · rw [hex]
                simp [Builtin.delete_, hat, under_run ht, hgo, hck, hfk, hst]
                rfl
              · have : (es'.eraseIdxIfInBounds j').toList = es'.toList.eraseIdx j' := by simp [Array.eraseIdxIfInBounds]; split <;> simp_all
                rw [this]
                exact q7
  | _ => cases eg
end
end Go.Gev

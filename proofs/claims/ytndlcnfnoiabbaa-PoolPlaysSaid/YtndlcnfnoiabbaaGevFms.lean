/- A run from a small memory, used wherever this memory is found within a greater one. -/
import Derived.Test.YtndlcnfnoiabbaaGevMm
import Derived.Test.YtndlcnfnoiabbaaGevHos
namespace Go.Gev
open Go.RowKit
inductive VW (n : Nat) (s : Nat → Nat) (wk : Bool) : Value → Value → Prop
 | dunno (v : Value) (h : wk = true ∨ v = .chan none) : VW n s wk (.chan none) v
 | bool (b : Bool) : VW n s wk (.bool b) (.bool b)
 | int (k : IntKind) (i : Int) : VW n s wk (.int k i) (.int k i)
 | string (x : ByteArray) : VW n s wk (.string x) (.string x)
 | nilptr : VW n s wk (.pointer none) (.pointer none)
 | ptr (id off : Nat) (h : id < n) : VW n s wk (.pointer (some ⟨id, off, none⟩)) (.pointer (some ⟨s id, off, none⟩))
 | nilslice : VW n s wk (.slice none 0 0) (.slice none 0 0)
 | nilmap : VW n s wk (.map none) (.map none)
 | map (id : Nat) (h : id < n) : VW n s wk (.map (some id)) (.map (some (s id)))
 | slice (id off l c c' : Nat) (h : id < n) (h1 : l ≤ c) (h2 : c ≤ c') (h3 : wk = true ∨ c' = c) : VW n s wk (.slice (some ⟨id, off, none⟩) l c) (.slice (some ⟨s id, off, none⟩) l c')
 | empty (b o k : Nat) : VW n s wk (.slice (some ⟨b, o, some k⟩) 0 0) (.slice (some ⟨b, o, some k⟩) 0 0)
 | nilFunc : VW n s wk .nilFunc .nilFunc
 | nilIface : VW n s wk .nilIface .nilIface
 | func (f : FuncId) : VW n s wk (.func (.func f) #[] #[]) (.func (.func f) #[] #[])
 | iface (t : TypeId) (v v' : Value) (h : VW n s wk v v') : VW n s wk (.iface t v) (.iface t v')
 | agg (xs ys : Array Value) (h : xs.size = ys.size) (h' : ∀ i (a : i < xs.size) (b : i < ys.size), VW n s wk xs[i] ys[i]) : VW n s wk (.agg xs) (.agg ys)
 | tuple (xs ys : Array Value) (h : xs.size = ys.size) (h' : ∀ i (a : i < xs.size) (b : i < ys.size), VW n s wk xs[i] ys[i]) : VW n s wk (.tuple xs) (.tuple ys)
theorem VW.down {n : Nat} {s : Nat → Nat} {wk : Bool} {ρ ρ0 : Ren} (hρ : ∀ id, id < n → ρ0 id = ρ (s id)) {v0 v : Value} (h : VW n s wk v0 v) : ∀ v', VR ρ v v' → VR ρ0 v0 v' := by
 induction h with
 | dunno v _ => exact fun v' _ => .dunno v'
 | bool b => exact fun v' g => by cases g; exact .bool _
 | int k i => exact fun v' g => by cases g; exact .int _ _
 | string x => exact fun v' g => by cases g; exact .string _
 | nilptr => exact fun v' g => by cases g; exact .nilptr
 | ptr id off h => exact fun v' g => by cases g with
  | ptr _ _ H e => exact .ptr id off H ((hρ id h).trans e)
 | nilslice => exact fun v' g => by cases g; exact .nilslice
 | nilmap => exact fun v' g => by cases g; exact .nilmap
 | map id h => exact fun v' g => by cases g with
  | map _ H e => exact .map id H ((hρ id h).trans e)
 | slice id off l c c' h h1 h2 h3 => exact fun v' g => by cases g with
  | slice _ _ _ _ c2 H e g1 g2 g3 g4 => exact .slice id off l c c2 H ((hρ id h).trans e) h1 (Nat.le_trans h2 g2) g3 g4
 | empty b o k => exact fun v' g => by cases g with
  | empty _ _ _ a' c' h3 => exact .empty _ _ _ a' c' h3
 | nilFunc => exact fun v' g => by cases g; exact .nilFunc
 | nilIface => exact fun v' g => by cases g; exact .nilIface
 | func f =>
  intro v' g
  cases g with
  | func _ _ f' _ c' hn h1 h2 h3 h4 =>
   exact .func _ _ f' _ c' hn h1 (fun i a => by simp at a) h3 (fun i a => by simp at a)
 | iface t v v2 _ ih => exact fun v' g => by cases g with
  | iface _ _ v3 h => exact .iface t v v3 (ih v3 h)
 | agg xs ys h _ ih => exact fun v' g => by cases g with
  | agg _ zs h1 h2 => exact .agg xs zs (h.trans h1) fun i a b => ih i a (by omega) _ (h2 i (by omega) b)
 | tuple xs ys h _ ih => exact fun v' g => by cases g with
  | tuple _ zs h1 h2 => exact .tuple xs zs (h.trans h1) fun i a b => ih i a (by omega) _ (h2 i (by omega) b)
theorem VW.up {n : Nat} {s : Nat → Nat} {ρ ρ0 : Ren} (hρ : ∀ id H, ρ0 id = some H → ρ (s id) = some H) {v0 v : Value} (h : VW n s false v0 v) : ∀ v', VR ρ0 v0 v' → VR ρ v v' := by
 induction h with
 | dunno v hv =>
  rcases hv with hv | hv
  ·cases hv
  ·subst hv; exact fun v' g => .dunno v'
 | bool b => exact fun v' g => by cases g; exact .bool _
 | int k i => exact fun v' g => by cases g; exact .int _ _
 | string x => exact fun v' g => by cases g; exact .string _
 | nilptr => exact fun v' g => by cases g; exact .nilptr
 | ptr id off h => exact fun v' g => by cases g with
  | ptr _ _ H e => exact .ptr (s id) off H (hρ id H e)
 | nilslice => exact fun v' g => by cases g; exact .nilslice
 | nilmap => exact fun v' g => by cases g; exact .nilmap
 | map id h => exact fun v' g => by cases g with
  | map _ H e => exact .map (s id) H (hρ id H e)
 | slice id off l c c' h h1 h2 h3 =>
  rcases h3 with h3 | h3
  ·cases h3
  ·subst h3
   exact fun v' g => by cases g with
   | slice _ _ _ _ c2 H e g1 g2 g3 g4 => exact .slice (s id) off l _ c2 H (hρ id H e) g1 g2 g3 g4
 | empty b o k => exact fun v' g => by cases g with
  | empty _ _ _ a' c' h3 => exact .empty _ _ _ a' c' h3
 | nilFunc => exact fun v' g => by cases g; exact .nilFunc
 | nilIface => exact fun v' g => by cases g; exact .nilIface
 | func f =>
  intro v' g
  cases g with
  | func _ _ f' _ c' hn h1 h2 h3 h4 =>
   exact .func _ _ f' _ c' hn h1 (fun i a => by simp at a) h3 (fun i a => by simp at a)
 | iface t v v2 _ ih => exact fun v' g => by cases g with
  | iface _ _ v3 h => exact .iface t v2 v3 (ih v3 h)
 | agg xs ys h _ ih => exact fun v' g => by cases g with
  | agg _ zs h1 h2 => exact .agg ys zs (h.symm.trans h1) fun i a b => ih i (by omega) a _ (h2 i (by omega) b)
 | tuple xs ys h _ ih => exact fun v' g => by cases g with
  | tuple _ zs h1 h2 => exact .tuple ys zs (h.symm.trans h1) fun i a b => ih i (by omega) a _ (h2 i (by omega) b)
theorem VW.flat {n : Nat} {s : Nat → Nat} {wk : Bool} {v0 v : Value} (h : VW n s wk v0 v) (hf : flat1 v0 = true) : flat1 v = true := by
 cases h <;> first | rfl | exact hf | (simp [flat1] at hf)
theorem VW.mono {n n' : Nat} {s s' : Nat → Nat} {wk : Bool} (hn : n ≤ n') (hs : ∀ id, id < n → s' id = s id) {v0 v : Value} (h : VW n s wk v0 v) : VW n' s' wk v0 v := by
 induction h with
 | dunno v h => exact .dunno v h
 | bool b => exact .bool b
 | int k i => exact .int k i
 | string x => exact .string x
 | nilptr => exact .nilptr
 | ptr id off h => rw [← hs id h]; exact .ptr id off (Nat.lt_of_lt_of_le h hn)
 | nilslice => exact .nilslice
 | nilmap => exact .nilmap
 | map id h => rw [← hs id h]; exact .map id (Nat.lt_of_lt_of_le h hn)
 | slice id off l c c' h h1 h2 h3 => rw [← hs id h]; exact .slice id off l c c' (Nat.lt_of_lt_of_le h hn) h1 h2 h3
 | empty b o k => exact .empty b o k
 | nilFunc => exact .nilFunc
 | nilIface => exact .nilIface
 | func f => exact .func f
 | iface t v v' _ ih => exact .iface t v v' ih
 | agg xs ys h _ ih => exact .agg xs ys h ih
 | tuple xs ys h _ ih => exact .tuple xs ys h ih
inductive MW (n : Nat) (s : Nat → Nat) (wk : Bool) : List MapEntry → List MapEntry → Prop
 | nil : MW n s wk [] []
 | cons {e e' : MapEntry} {es es' : List MapEntry} (hk : e'.key = e.key) (hb : e'.born = e.born) (hv : VW n s wk e.val e'.val) (t : MW n s wk es es') : MW n s wk (e :: es) (e' :: es')
theorem MW.mono {n n' : Nat} {s s' : Nat → Nat} {wk : Bool} (hn : n ≤ n') (hs : ∀ id, id < n → s' id = s id) {es es' : List MapEntry} (h : MW n s wk es es') : MW n' s' wk es es' := by
 induction h with
 | nil => exact .nil
 | cons a b c _ ih => exact .cons a b (c.mono hn hs) ih
inductive BW (n : Nat) (s : Nat → Nat) : Blk → Blk → Prop
 | row (c0 c : Tr Value) (n0 n1 e u : Nat) (rw0 rw fl0 fl : Bool) (hrw : rw0 = true → rw = true ∧ n0 = n1 ∧ (∀ i, (c0.get i).isSome = true ↔ i < n0) ∧ ∀ i, (c.get i).isSome = true ↔ i < n1) (hfl : fl0 = true → fl = true ∧ ∀ i v0, c0.get i = some v0 → flat1 v0 = true)
  (hc : ∀ i v0, c0.get i = some v0 → ∃ v, c.get i = some v ∧ VW n s true v0 v) : BW n s (.row c0 n0 e u rw0 fl0) (.row c n1 e u rw fl)
 | mp (es es' : List MapEntry) (cl : Nat) (h : MW n s true es es') : BW n s (.mp es cl) (.mp es' cl)
inductive BU (n : Nat) (s : Nat → Nat) : Blk → Blk → Prop
 | row (c0 c : Tr Value) (n0 e u : Nat) (rw fl : Bool) (hc : ∀ i, (c0.get i = none ∧ c.get i = none) ∨ ∃ v0 v, c0.get i = some v0 ∧ c.get i = some v ∧ VW n s false v0 v) : BU n s (.row c0 n0 e u rw fl) (.row c n0 e u rw fl)
 | mp (es es' : List MapEntry) (cl : Nat) (h : MW n s false es es') : BU n s (.mp es cl) (.mp es' cl)
theorem BU.rw_eq {n : Nat} {s : Nat → Nat} {b0 b : Blk} (h : BU n s b0 b) : isRw b = isRw b0 := by cases h <;> rfl
theorem BW.rw_imp {n : Nat} {s : Nat → Nat} {b0 b : Blk} (h : BW n s b0 b) (hr : isRw b0 = true) : isRw b = true := by
 cases h with
 | row c0 c n0 n1 e u rw0 rw fl0 fl hrw => exact (hrw hr).1
 | mp => rfl
theorem MW.me {n : Nat} {s : Nat → Nat} {wk : Bool} {ρ ρ0 : Ren} (hd : ∀ v0 v v', VW n s wk v0 v → VR ρ v v' → VR ρ0 v0 v') {es es1 : List MapEntry} (h : MW n s wk es es1) : ∀ es', ME ρ es1 es' → ME ρ0 es es' := by
 induction h with
 | nil => exact fun es' g => by cases g; exact .nil
 | cons a b c _ ih =>
  intro es' g
  cases g with
  | cons hk hb hv t => exact .cons (hk.trans a) (hb.trans b) (hd _ _ _ c hv) (ih _ t)
theorem MW.mk {n : Nat} {s : Nat → Nat} {wk : Bool} {ρ ρ0 : Ren} (hd : ∀ v0 v v', VW n s wk v0 v → VR ρ v v' → VR ρ0 v0 v') {es es1 : List MapEntry} (h : MW n s wk es es1) : ∀ es', MK ρ es1 es' → MK ρ0 es es' := by
 induction h with
 | nil => exact fun es' g => by cases g; exact .nil
 | cons a b c _ ih =>
  intro es' g
  cases g with
  | cons hk hv t => exact .cons (hk.trans a) (hd _ _ _ c hv) (ih _ t)
theorem MW.me_up {n : Nat} {s : Nat → Nat} {ρ ρ0 : Ren} (hd : ∀ v0 v v', VW n s false v0 v → VR ρ0 v0 v' → VR ρ v v') {es es1 : List MapEntry} (h : MW n s false es es1) : ∀ es', ME ρ0 es es' → ME ρ es1 es' := by
 induction h with
 | nil => exact fun es' g => by cases g; exact .nil
 | cons a b c _ ih =>
  intro es' g
  cases g with
  | cons hk hb hv t => exact .cons (hk.trans a.symm) (hb.trans b.symm) (hd _ _ _ c hv) (ih _ t)
theorem MW.mk_up {n : Nat} {s : Nat → Nat} {ρ ρ0 : Ren} (hd : ∀ v0 v v', VW n s false v0 v → VR ρ0 v0 v' → VR ρ v v') {es es1 : List MapEntry} (h : MW n s false es es1) : ∀ es', MK ρ0 es es' → MK ρ es1 es' := by
 induction h with
 | nil => exact fun es' g => by cases g; exact .nil
 | cons a b c _ ih =>
  intro es' g
  cases g with
  | cons hk hv t => exact .cons (hk.trans a.symm) (hd _ _ _ c hv) (ih _ t)
theorem MW.born {n : Nat} {s : Nat → Nat} {wk : Bool} {es es1 : List MapEntry} (h : MW n s wk es es1) (p : Nat → Prop) : (∀ e ∈ es1, p e.born) ↔ (∀ e ∈ es, p e.born) := by
 induction h with
 | nil => simp
 | cons a b c _ ih => simp [b, ih]
theorem BW.down {B n : Nat} {s : Nat → Nat} {ρ ρ0 : Ren} {w : World} {id : Nat} (hρ : ∀ id, id < n → ρ0 id = ρ (s id)) (hid : id < n) {b0 b : Blk} (h : BW n s b0 b) (g : BR B ρ w (s id) b) : BR B ρ0 w id b0 := by
 have hd : ∀ v0 v v', VW n s true v0 v → VR ρ v v' → VR ρ0 v0 v' := fun v0 v v' a b => a.down hρ v' b
 cases h with
 | row c0 c n0 n1 e u rw0 rw fl0 fl hrw hfl hc =>
  obtain ⟨H, arr, fz, h1, h2, h3, h4, h5, h6, h7⟩ := g
  refine ⟨H, arr, fz, (hρ id hid).trans h1, h2, h3, h4, fun i v hv => ?_, fun hr => ?_, fun hr i v hv => ?_⟩
  ·obtain ⟨x, x1, x2⟩ := hc i v hv
   obtain ⟨y, y1, y2⟩ := h5 i x x1
   exact ⟨y, y1, hd _ _ _ x2 y2⟩
  ·obtain ⟨r1, r2, r3, _⟩ := hrw hr
   obtain ⟨q1, q2, q3, q4, q5⟩ := h6 r1
   exact ⟨q1, q2, q3, by rw [r2]; exact q4, r3⟩
  ·exact (hfl hr).2 i v hv
 | mp es es1 cl h =>
  obtain ⟨H, es', h1, h2, h3, h4⟩ := g
  refine ⟨H, es', (hρ id hid).trans h1, h2, h3, ?_⟩
  rcases h4 with ⟨q1, q2⟩ | ⟨q1, q2, es'', q3, q4⟩
  ·exact .inl ⟨h.me hd _ q1, (h.born (fun k => k < 1000000000000)).1 q2⟩
  ·exact .inr ⟨(h.born (fun k => 1000000000000 ≤ k)).1 q1, q2, es'', q3, h.mk hd _ q4⟩
theorem BU.up {B n : Nat} {s : Nat → Nat} {ρ ρ0 : Ren} {w : World} {id : Nat} (hρ : ∀ id H, ρ0 id = some H → ρ (s id) = some H) {b0 b : Blk} (h : BU n s b0 b) (g : BR B ρ0 w id b0) : BR B ρ w (s id) b := by
 have hd : ∀ v0 v v', VW n s false v0 v → VR ρ0 v0 v' → VR ρ v v' := fun v0 v v' a b => a.up hρ v' b
 cases h with
 | row c0 c n0 e u rw fl hc =>
  obtain ⟨H, arr, fz, h1, h2, h3, h4, h5, h6, h7⟩ := g
  refine ⟨H, arr, fz, hρ id H h1, h2, h3, h4, fun i v hv => ?_, fun hr => ?_, fun hr i v hv => ?_⟩
  ·rcases hc i with ⟨q1, q2⟩ | ⟨w0, w1, q1, q2, q3⟩
   ·rw [q2] at hv; cases hv
   ·rw [q2] at hv; injection hv with hv; subst hv
    obtain ⟨y, y1, y2⟩ := h5 i w0 q1
    exact ⟨y, y1, hd _ _ _ q3 y2⟩
  ·obtain ⟨q1, q2, q3, q4, q5⟩ := h6 hr
   refine ⟨q1, q2, q3, q4, fun i => ?_⟩
   rw [← q5 i]
   rcases hc i with ⟨q1, q2⟩ | ⟨w0, w1, q1, q2, q3⟩ <;> rw [q1, q2] <;> simp
  ·rcases hc i with ⟨q1, q2⟩ | ⟨w0, w1, q1, q2, q3⟩
   ·rw [q2] at hv; cases hv
   ·rw [q2] at hv; injection hv with hv; subst hv
    exact q3.flat (h7 hr i w0 q1)
 | mp es es1 cl h =>
  obtain ⟨H, es', h1, h2, h3, h4⟩ := g
  refine ⟨H, es', hρ id H h1, h2, h3, ?_⟩
  rcases h4 with ⟨q1, q2⟩ | ⟨q1, q2, es'', q3, q4⟩
  ·exact .inl ⟨h.me_up hd _ q1, (h.born (fun k => k < 1000000000000)).2 q2⟩
  ·exact .inr ⟨(h.born (fun k => 1000000000000 ≤ k)).2 q1, q2, es'', q3, h.mk_up hd _ q4⟩
structure Emb (s : Nat → Nat) (h0 h : Hs) : Prop where
 at_ : ∀ id b0, h0.hp.get id = some b0 → id < h0.nx ∧ ∃ b, h.hp.get (s id) = some b ∧ BW h0.nx s b0 b
 lt : ∀ id, id < h0.nx → s id < h.nx
 inj : ∀ id id' b b', h0.hp.get id = some b → h0.hp.get id' = some b' → isRw b = true → id ≠ id' → s id ≠ s id'
def nextS (s : Nat → Nat) (n0 nx : Nat) (id : Nat) : Nat := if id < n0 then s id else nx + (id - n0)
structure Frm (s : Nat → Nat) (h0 h0' h h' : Hs) : Prop where
 nx : h'.nx = h.nx + (h0'.nx - h0.nx)
 lo : h'.lo ≤ h.lo
 lo1 : ∀ id b0, h0.hp.get id = some b0 → isRw b0 = true → h0'.lo ≤ id → h'.lo ≤ s id
 lo2 : ∀ x, x ≤ h.lo → (∀ id b0, h0.hp.get id = some b0 → isRw b0 = true → h0'.lo ≤ id → x ≤ s id) → x ≤ h'.lo
 /-- as it was -/
 old : ∀ k, k < h.nx → (∀ id b0, h0.hp.get id = some b0 → isRw b0 = true → h0'.lo ≤ id → s id ≠ k) → h'.hp.get k = h.hp.get k
 /-- turned, or new -/
 new : ∀ id, (h0.nx ≤ id ∧ id < h0'.nx) ∨ (∃ b0, h0.hp.get id = some b0 ∧ isRw b0 = true ∧ h0'.lo ≤ id) →
  (h0'.hp.get id = none ∧ h'.hp.get (nextS s h0.nx h.nx id) = none) ∨ ∃ b0 b, h0'.hp.get id = some b0 ∧ h'.hp.get (nextS s h0.nx h.nx id) = some b ∧ BU h0'.nx (nextS s h0.nx h.nx) b0 b
 beyond : ∀ k, h'.nx ≤ k → h'.hp.get k = h.hp.get k
section
variable {B : Nat} {ρ ρ1 : Ren} {s : Nat → Nat} {h0 h0' h h' : Hs} {w w' : World} {v0 v v' : Value}
def downR (ρ : Ren) (s : Nat → Nat) (n0 : Nat) : Ren := fun id => if id < n0 then ρ (s id) else none
def upR (ρ ρ1 : Ren) (n0 nx : Nat) : Ren := fun k => if k < nx then ρ k else ρ1 (k - nx + n0)
theorem Emb.hr (E : Emb s h0 h) (R : HR B ρ h w) : HR B (downR ρ s h0.nx) h0 w := by
 refine ⟨R.base, fun id hid => by simp [downR]; omega, fun id b0 hb => ?_, fun id id' b b' H H' hb hb' hne hr he he' => ?_⟩
 ·obtain ⟨g1, b, g2, g3⟩ := E.at_ id b0 hb
  exact g3.down (fun id hid => by simp [downR, hid]) g1 (R.has _ _ g2)
 ·obtain ⟨g1, c, g2, g3⟩ := E.at_ id b hb
  obtain ⟨g1', c', g2', g3'⟩ := E.at_ id' b' hb'
  simp only [downR, if_pos g1, if_pos g1'] at he he'
  exact R.inj _ _ _ _ H H' g2 g2' (E.inj id id' b b' hb hb' hr hne) (g3.rw_imp hr) he he'
theorem Frm.st (F : Frm s h0 h0' h h') (E : Emb s h0 h) (R : HR B ρ h w) (S : St B (downR ρ s h0.nx) h0 w ρ1 h0' w') (hu : VW h0'.nx (nextS s h0.nx h.nx) false v0 v) (hv : VR ρ1 v0 v') :
 VR (upR ρ ρ1 h0.nx h.nx) v v' ∧ St B ρ h w (upR ρ ρ1 h0.nx h.nx) h' w' := by
 have hup : ∀ id H, ρ1 id = some H → upR ρ ρ1 h0.nx h.nx (nextS s h0.nx h.nx id) = some H := fun id H e => by
  unfold upR nextS
  by_cases hid : id < h0.nx
  ·have := S.old id hid
   rw [e] at this
   rw [if_pos hid, if_pos (E.lt id hid)]
   simp only [downR, if_pos hid] at this
   exact this.symm
  ·rw [if_neg hid, if_neg (by omega), show h.nx + (id - h0.nx) - h.nx + h0.nx = id by omega]
   exact e
 have hle : ρ.le (upR ρ ρ1 h0.nx h.nx) := fun k H e => by
  unfold upR
  by_cases hk : k < h.nx
  ·rw [if_pos hk]; exact e
  ·rw [R.dom k (by omega)] at e; cases e
 have hold : ∀ k, k < h.nx → upR ρ ρ1 h0.nx h.nx k = ρ k := fun k hk => if_pos hk
 have n0 := S.nx
 -- turned ones
 have hrel : ∀ id b0, h0.hp.get id = some b0 → isRw b0 = true → ∃ b, h.hp.get (s id) = some b ∧ isRw b = true ∧ id < h0.nx := fun id b0 g r => by
  obtain ⟨g1, b, g2, g3⟩ := E.at_ id b0 g
  exact ⟨b, g2, g3.rw_imp r, g1⟩
 -- what a place of the greater memory is now
 have hcl : ∀ k b, h'.hp.get k = some b → (k < h.nx ∧ h.hp.get k = some b ∧ ∀ id b0, h0.hp.get id = some b0 → isRw b0 = true → h0'.lo ≤ id → s id ≠ k) ∨
  (∃ id b0 c0 c, k = s id ∧ id < h0.nx ∧ h0.hp.get id = some b0 ∧ isRw b0 = true ∧ h0'.lo ≤ id ∧ h0'.hp.get id = some c0 ∧ BU h0'.nx (nextS s h0.nx h.nx) c0 b ∧ h.hp.get k = some c ∧ isRw c = true) ∨
  (∃ id c0, h0.nx ≤ id ∧ id < h0'.nx ∧ k = h.nx + (id - h0.nx) ∧ h0'.hp.get id = some c0 ∧ BU h0'.nx (nextS s h0.nx h.nx) c0 b) := fun k b hb => by
  rcases Nat.lt_or_ge k h.nx with hk | hk
  ·by_cases ht : ∃ id b0, h0.hp.get id = some b0 ∧ isRw b0 = true ∧ h0'.lo ≤ id ∧ s id = k
   ·obtain ⟨id, b0, g1, g2, g3, g4⟩ := ht
    obtain ⟨c, q1, q2, q3⟩ := hrel id b0 g1 g2
    refine .inr (.inl ⟨id, b0, ?_⟩)
    have e : nextS s h0.nx h.nx id = k := by unfold nextS; rw [if_pos q3]; exact g4
    rcases F.new id (.inr ⟨b0, g1, g2, g3⟩) with ⟨_, x⟩ | ⟨c0, b', x1, x2, x3⟩
    ·rw [e, hb] at x; cases x
    ·rw [e, hb] at x2; injection x2 with x2; subst x2
     exact ⟨c0, c, g4.symm, q3, g1, g2, g3, x1, x3, by rw [← g4]; exact q1, q2⟩
   ·have hn : ∀ id b0, h0.hp.get id = some b0 → isRw b0 = true → h0'.lo ≤ id → s id ≠ k := fun id b0 a b c d => ht ⟨id, b0, a, b, c, d⟩
    exact .inl ⟨hk, by rw [← F.old k hk hn]; exact hb, hn⟩
  ·rcases Nat.lt_or_ge k h'.nx with hk2 | hk2
   ·have hnx := F.nx
    refine .inr (.inr ⟨k - h.nx + h0.nx, ?_⟩)
    have e : nextS s h0.nx h.nx (k - h.nx + h0.nx) = k := by unfold nextS; rw [if_neg (by omega)]; omega
    rcases F.new (k - h.nx + h0.nx) (.inl ⟨by omega, by omega⟩) with ⟨_, x⟩ | ⟨c0, b', x1, x2, x3⟩
    ·rw [e, hb] at x; cases x
    ·rw [e, hb] at x2; injection x2 with x2; subst x2
     exact ⟨c0, by omega, by omega, by omega, x1, x3⟩
   ·rw [F.beyond k hk2] at hb
    have := R.lt hb; have := F.nx; omega
 have hfr : ∀ k H, k < h.nx → ρ k = some H → (∀ id b0, h0.hp.get id = some b0 → isRw b0 = true → h0'.lo ≤ id → s id ≠ k) → (∃ b, h.hp.get k = some b) → w'.heap[H.blk]? = w.heap[H.blk]? := fun k H hk he hn hb => by
  obtain ⟨b, hb⟩ := hb
  obtain ⟨H2, e1, e2⟩ := (R.has k b hb).host_lt
  rw [he] at e1; injection e1 with e1; subst e1
  refine S.frame H.blk e2 fun id b0 H0 g1 g2 g3 g4 => ?_
  obtain ⟨c, q1, q2, q3⟩ := hrel id b0 g1 g2
  simp only [downR, if_pos q3] at g3
  exact R.inj (s id) k c b H0 H q1 hb (hn id b0 g1 g2 g4) q2 g3 he
 -- a place below that is there now was there, and is alike
 have hwas : ∀ k b, h'.hp.get k = some b → k < h.nx → ∃ c, h.hp.get k = some c ∧ isRw c = isRw b := fun k b hb hk => by
  rcases hcl k b hb with ⟨_, g, _⟩ | ⟨id, b0, c0, c, g1, g2, g3, g4, g5, g6, g7, g8, g9⟩ | ⟨id, c0, g1, g2, g3, _⟩
  ·exact ⟨b, g, rfl⟩
  ·refine ⟨c, g8, ?_⟩
   obtain ⟨b1, r1, r2, _⟩ := S.gone id c0 g6 g2
   rw [g3] at r1; injection r1 with r1; subst r1
   rw [g9, g7.rw_eq, ← r2, g4]
  ·omega
 have hmix : ∀ k k' b b' H H', h'.hp.get k = some b → h'.hp.get k' = some b' → h.nx ≤ k → k' < h.nx → upR ρ ρ1 h0.nx h.nx k = some H → ρ k' = some H' → H.blk ≠ H'.blk := fun k k' b b' H H' hb hb' hk hk' he he' => by
  rcases hcl k b hb with ⟨g, _, _⟩ | ⟨id, b0, c0, c, g1, g2, g3, g4, g5, g6, g7, g8, g9⟩ | ⟨id, c0, g1, g2, g3, g4, g5⟩
  ·omega
  ·have := E.lt id g2; omega
  ·have he2 : ρ1 id = some H := by
    unfold upR at he
    rw [if_neg (by omega), show k - h.nx + h0.nx = id by omega] at he
    exact he
   obtain ⟨c, q1, q2⟩ := hwas k' b' hb' hk'
   rcases S.fresh id H g1 he2 with r | ⟨id0, b1, H0, r1, r2, r3, r4, r5⟩
   ·obtain ⟨H2, e1, e2⟩ := (R.has k' c q1).host_lt
    rw [he'] at e1; injection e1 with e1; subst e1
    omega
   ·obtain ⟨c1, x1, x2, x3⟩ := hrel id0 b1 r1 r2
    have r3b := r3
    simp only [downR, if_pos x3] at r3
    by_cases e : s id0 = k'
    ·-- turned: it is there still
     rcases hcl k' b' hb' with ⟨_, _, g⟩ | ⟨id2, b2, c2, c3, y1, y2, y3, y4, y5, y6, y7, y8, y9⟩ | ⟨id2, c2, y1, y2, y3, _⟩
     ·exact absurd e (g id0 b1 r1 r2 r4)
     ·have e3 : id0 = id2 := by
       by_cases e4 : id0 = id2
       ·exact e4
       ·exact absurd (e.trans y1) (E.inj id0 id2 b1 b2 r1 y3 r2 e4)
      subst e3
      refine S.hr.inj id id0 c0 c2 H H' g4 y6 (by omega) (S.newrw id c0 g4 g1) he2 ?_
      rw [S.old id0 x3]
      simp only [downR, if_pos x3]
      rw [← y1]; exact he'
     ·omega
    ·have := R.inj (s id0) k' c1 c H0 H' x1 q1 e x2 r3 he'
     rw [r5] at this
     exact this
 refine ⟨hu.up hup v' hv, ⟨⟨Nat.le_trans R.base S.size, fun k hk => ?_, fun k b hb => ?_, fun k k' b b' H H' hb hb' hne hr he he' => ?_⟩, ?_, hle, hold, S.below, S.size, F.lo, fun k b hb hk => ?_, fun k b hb hk => ?_, fun k b hb hk => ?_, fun k hk hno => ?_, fun k H hk he => ?_⟩⟩
 ·have := F.nx
  unfold upR
  rw [if_neg (by omega)]
  exact S.hr.dom _ (by omega)
 ·rcases hcl k b hb with ⟨g1, g2, g3⟩ | ⟨id, b0, c0, c, g1, g2, g3, g4, g5, g6, g7, g8, g9⟩ | ⟨id, c0, g1, g2, g3, g4, g5⟩
  ·exact (R.has k b g2).mono hle fun H he => hfr k H g1 he g3 ⟨b, g2⟩
  ·have e : nextS s h0.nx h.nx id = k := by unfold nextS; rw [if_pos g2]; exact g1.symm
   rw [← e]
   exact g7.up hup (S.hr.has id c0 g6)
  ·have e : nextS s h0.nx h.nx id = k := by unfold nextS; rw [if_neg (by omega)]; exact g3.symm
   rw [← e]
   exact g5.up hup (S.hr.has id c0 g4)
 ·rcases Nat.lt_or_ge k h.nx with hk | hk <;> rcases Nat.lt_or_ge k' h.nx with hk' | hk'
  ·rw [hold k hk] at he
   rw [hold k' hk'] at he'
   obtain ⟨c, q1, q2⟩ := hwas k b hb hk
   obtain ⟨c', q1', q2'⟩ := hwas k' b' hb' hk'
   exact R.inj k k' c c' H H' q1 q1' hne (q2.trans hr) he he'
  ·rw [hold k hk] at he
   exact fun e => hmix k' k b' b H' H hb' hb hk' hk he' he e.symm
  ·rw [hold k' hk'] at he'
   exact hmix k k' b b' H H' hb hb' hk hk' he he'
  ·rcases hcl k b hb with ⟨g, _, _⟩ | ⟨id, b0, c0, c, g1, g2, _⟩ | ⟨id, c0, g1, g2, g3, g4, g5⟩
   ·omega
   ·have := E.lt id g2; omega
   rcases hcl k' b' hb' with ⟨g, _, _⟩ | ⟨id', b0, c0', c, g1', g2', _⟩ | ⟨id', c0', g1', g2', g3', g4', g5'⟩
   ·omega
   ·have := E.lt id' g2'; omega
   have he2 : ρ1 id = some H := by
    unfold upR at he
    rw [if_neg (by omega), show k - h.nx + h0.nx = id by omega] at he
    exact he
   have he2' : ρ1 id' = some H' := by
    unfold upR at he'
    rw [if_neg (by omega), show k' - h.nx + h0.nx = id' by omega] at he'
    exact he'
   exact S.hr.inj id id' c0 c0' H H' g4 g4' (by omega) (S.newrw id c0 g4 g1) he2 he2'
 ·have := F.nx; omega
 ·have hk2 := R.lt hb
  rw [F.old k hk2 fun id b0 g1 g2 g3 e => ?_]
  ·exact hb
  ·have := F.lo1 id b0 g1 g2 g3; omega
 ·obtain ⟨c, q1, q2⟩ := hwas k b hb hk
  refine ⟨c, q1, q2, fun hlo => ?_⟩
  rw [F.old k hk fun id b0 g1 g2 g3 e => ?_] at hb
  ·rw [q1] at hb; injection hb
  ·have := F.lo1 id b0 g1 g2 g3; omega
 ·rcases hcl k b hb with ⟨g, _, _⟩ | ⟨id, b0, c0, c, g1, g2, _⟩ | ⟨id, c0, g1, g2, g3, g4, g5⟩
  ·omega
  ·have := E.lt id g2; omega
  ·rw [g5.rw_eq]; exact S.newrw id c0 g4 g1
 ·refine S.frame k hk fun id b0 H0 g1 g2 g3 g4 => ?_
  obtain ⟨c, q1, q2, q3⟩ := hrel id b0 g1 g2
  simp only [downR, if_pos q3] at g3
  exact hno (s id) c H0 q1 q2 g3 (F.lo1 id b0 g1 g2 g4)
 ·unfold upR at he
  rw [if_neg (by omega)] at he
  rcases S.fresh (k - h.nx + h0.nx) H (by omega) he with r | ⟨id0, b1, H0, r1, r2, r3, r4, r5⟩
  ·exact .inl r
  ·obtain ⟨c1, x1, x2, x3⟩ := hrel id0 b1 r1 r2
   simp only [downR, if_pos x3] at r3
   exact .inr ⟨s id0, c1, H0, x1, x2, r3, F.lo1 id0 b1 r1 r2 r4, r5⟩
end
inductive VWs (n : Nat) (s : Nat → Nat) : List Value → List Value → Prop
 | nil : VWs n s [] []
 | cons {a b : Value} {as bs : List Value} (h : VW n s true a b) (t : VWs n s as bs) : VWs n s (a :: as) (b :: bs)
theorem VWs.down {n : Nat} {s : Nat → Nat} {ρ ρ0 : Ren} (hρ : ∀ id, id < n → ρ0 id = ρ (s id)) {as bs : List Value} (h : VWs n s as bs) : ∀ cs, VL ρ bs cs → VL ρ0 as cs := by
 induction h with
 | nil => exact fun cs g => by rw [g.nil_left]; exact VL.nil
 | cons a _ ih =>
  intro cs g
  obtain ⟨y, zs, rfl, g1, g2⟩ := g.head
  exact .cons (a.down hρ y g1) (ih zs g2)
abbrev Runs0 := List Value → Hs → Value → Hs → Prop
def FmP (K : Runs0) (args : List Value) (h : Hs) (v : Value) (h' : Hs) : Prop :=
 ∃ (s : Nat → Nat) (args0 : List Value) (h0 h0' : Hs) (v0 : Value), K args0 h0 v0 h0' ∧ Emb s h0 h ∧ VWs h0.nx s args0 args ∧ VW h0'.nx (nextS s h0.nx h.nx) false v0 v ∧ Frm s h0 h0' h h'
open Classical in
noncomputable def fmG (K : Runs0) (args : List Value) (h : Hs) : An := if e : ∃ p : Value × Hs, FmP K args h p.1 p.2 then some (.val (Classical.choose e).1 (Classical.choose e).2) else none
theorem fmG_some {K : Runs0} {args : List Value} {h h' : Hs} {v : Value} (e : FmP K args h v h') : ∃ v h', fmG K args h = some (.val v h') ∧ FmP K args h v h' := by
 have e' : ∃ p : Value × Hs, FmP K args h p.1 p.2 := ⟨(v, h'), e⟩
 refine ⟨(Classical.choose e').1, (Classical.choose e').2, ?_, Classical.choose_spec e'⟩
 unfold fmG
 rw [dif_pos e']
theorem fmG_inv {K : Runs0} {args : List Value} {h h' : Hs} {v : Value} (e : fmG K args h = some (.val v h')) : FmP K args h v h' := by
 unfold fmG at e
 split at e
 ·rename_i g
  injection e with e
  injection e with e1 e2
  rw [← e1, ← e2]
  exact Classical.choose_spec g
 ·cases e
def KOk (P : Program) (f : FuncId) (K : Runs0) : Prop := ∀ (args : List Value) (args' : Array Value) (v : Value) (h h' : Hs) (B : Nat) (ρ : Ren) (w : World), K args h v h' → VL ρ args args'.toList → HR B ρ h w →
 Calls P f args' w (fun e w' => ∃ v' ρ', e = .returned v' ∧ VR ρ' v v' ∧ St B ρ h w ρ' h' w')
theorem fm_sum {P : Program} {f : FuncId} {K : Runs0} (hf : (FF P f).isSome = true) (hK : KOk P f K) : SumOk P f (fmG K) :=
 ⟨Option.isSome_iff_exists.1 hf, fun args args' v h h' B ρ w hr hl R => by
  obtain ⟨s, args0, h0, h0', v0, k, E, hw, hu, F⟩ := fmG_inv hr
  refine (hK args0 args' v0 h0 h0' B (downR ρ s h0.nx) w k (hw.down (fun id hid => by simp [downR, hid]) _ hl) (E.hr R)).mono fun e w' hh => ?_
  obtain ⟨v', ρ1, e1, e2, S⟩ := hh
  obtain ⟨g1, g2⟩ := F.st E R S hu e2
  exact ⟨v', _, e1, g1, g2⟩⟩
end Go.Gev
namespace Go.Gev
open Go.RowKit
noncomputable section
def Tr.mapO {α β : Type} (f : α → Option β) : Tr α → Tr β
 | .e => .e
 | .n v l r => .n (v.bind f) (Tr.mapO f l) (Tr.mapO f r)
theorem Tr.getp_mapO {α β : Type} (f : α → Option β) (p : List Bool) : ∀ (t : Tr α), Tr.getp p (Tr.mapO f t) = (Tr.getp p t).bind f := by
 induction p with
 | nil => intro t; cases t with
  | e => rfl
  | n v l r => rfl
 | cons b p ih => intro t; cases t with
  | e => rw [Tr.mapO, Tr.getp_e, Tr.getp_e]; rfl
  | n v l r => rw [Tr.mapO, Tr.getp_cons, Tr.getp_cons]; cases b <;> simp [ih]
theorem Tr.get_mapO {α β : Type} (f : α → Option β) (t : Tr α) (k : Nat) : (Tr.mapO f t).get k = (t.get k).bind f := Tr.getp_mapO f _ t
theorem Tr.build {α : Type} (F : Nat → Option α) (t : Tr α) : ∀ n : Nat, ∃ t' : Tr α, ∀ k, t'.get k = if k < n then F k else t.get k := by
 intro n
 induction n with
 | zero => exact ⟨t, fun k => by simp⟩
 | succ n ih =>
  obtain ⟨t', h⟩ := ih
  refine ⟨t'.set n (F n), fun k => ?_⟩
  rw [Tr.get_set]
  by_cases e : n = k
  ·subst e; simp
  ·rw [if_neg e, h k]
   by_cases e2 : k < n
   ·rw [if_pos e2, if_pos (by omega)]
   ·rw [if_neg e2, if_neg (by omega)]
def ok0 (n : Nat) : Value → Bool
 | .chan none => true
 | .bool _ => true
 | .int _ _ => true
 | .string _ => true
 | .pointer none => true
 | .pointer (some ⟨id, _, none⟩) => Nat.blt id n
 | .slice none l c => andK (Nat.beq l 0) (Nat.beq c 0)
 | .slice (some ⟨id, _, none⟩) l c => andK (Nat.blt id n) (Nat.ble l c)
 | .slice (some ⟨_, _, some _⟩) l c => andK (Nat.beq l 0) (Nat.beq c 0)
 | .map none => true
 | .map (some id) => Nat.blt id n
 | .nilFunc => true
 | .nilIface => true
 | _ => false
def okL0 (n : Nat) : List Value → Bool
 | [] => true
 | v :: l => andK (ok0 n v) (okL0 n l)
def ok1 (n : Nat) : Value → Bool
 | .agg xs => okL0 n xs.toList
 | .iface _ v => ok0 n v
 | v => ok0 n v
def okL1 (n : Nat) : List Value → Bool
 | [] => true
 | v :: l => andK (ok1 n v) (okL1 n l)
def ok2 (n : Nat) : Value → Bool
 | .tuple xs => okL1 n xs.toList
 | v => ok1 n v
theorem blt_lt {a b : Nat} (h : Nat.blt a b = true) : a < b := by rw [blt_eq] at h; exact of_decide_eq_true h
theorem ok0_mv {n : Nat} (s : Nat → Nat) {v : Value} (h : ok0 n v = true) : ∃ v', VW n s false v v' := by
 unfold ok0 at h
 split at h
 ·exact ⟨_, .dunno _ (.inr rfl)⟩
 ·exact ⟨_, .bool _⟩
 ·exact ⟨_, .int _ _⟩
 ·exact ⟨_, .string _⟩
 ·exact ⟨_, .nilptr⟩
 ·exact ⟨_, .ptr _ _ (blt_lt h)⟩
 ·obtain ⟨h1, h2⟩ := andK_true h
  rw [Nat.eq_of_beq_eq_true h1, Nat.eq_of_beq_eq_true h2]
  exact ⟨_, .nilslice⟩
 ·obtain ⟨h1, h2⟩ := andK_true h
  exact ⟨_, .slice _ _ _ _ _ (blt_lt h1) (Nat.le_of_ble_eq_true h2) (Nat.le_refl _) (.inr rfl)⟩
 ·obtain ⟨h1, h2⟩ := andK_true h
  rw [Nat.eq_of_beq_eq_true h1, Nat.eq_of_beq_eq_true h2]
  exact ⟨_, .empty _ _ _⟩
 ·exact ⟨_, .nilmap⟩
 ·exact ⟨_, .map _ (blt_lt h)⟩
 ·exact ⟨_, .nilFunc⟩
 ·exact ⟨_, .nilIface⟩
 ·cases h
inductive VWl (n : Nat) (s : Nat → Nat) (wk : Bool) : List Value → List Value → Prop
 | nil : VWl n s wk [] []
 | cons {a b : Value} {as bs : List Value} (h : VW n s wk a b) (t : VWl n s wk as bs) : VWl n s wk (a :: as) (b :: bs)
theorem VWl.arr {n : Nat} {s : Nat → Nat} {wk : Bool} {as bs : List Value} (h : VWl n s wk as bs) : as.length = bs.length ∧ ∀ i (a : i < as.length) (b : i < bs.length), VW n s wk as[i] bs[i] := by
 induction h with
 | nil => exact ⟨rfl, fun i a => by simp at a⟩
 | cons h _ ih =>
  refine ⟨by simp [ih.1], fun i a b => ?_⟩
  cases i with
  | zero => exact h
  | succ i => exact ih.2 i (by simpa using a) (by simpa using b)
theorem VWl.agg {n : Nat} {s : Nat → Nat} {wk : Bool} {as bs : List Value} (h : VWl n s wk as bs) : VW n s wk (.agg as.toArray) (.agg bs.toArray) :=
 .agg _ _ (by simpa using h.arr.1) fun i a b => by simpa using h.arr.2 i (by simpa using a) (by simpa using b)
theorem VWl.tuple {n : Nat} {s : Nat → Nat} {wk : Bool} {as bs : List Value} (h : VWl n s wk as bs) : VW n s wk (.tuple as.toArray) (.tuple bs.toArray) :=
 .tuple _ _ (by simpa using h.arr.1) fun i a b => by simpa using h.arr.2 i (by simpa using a) (by simpa using b)
theorem okL0_mv {n : Nat} (s : Nat → Nat) : ∀ {l : List Value}, okL0 n l = true → ∃ l', VWl n s false l l' := by
 intro l
 induction l with
 | nil => exact fun _ => ⟨[], .nil⟩
 | cons v l ih =>
  intro h
  obtain ⟨h1, h2⟩ := andK_true h
  obtain ⟨v', g⟩ := ok0_mv s h1
  obtain ⟨l', g'⟩ := ih h2
  exact ⟨v' :: l', .cons g g'⟩
theorem ok1_mv {n : Nat} (s : Nat → Nat) {v : Value} (h : ok1 n v = true) : ∃ v', VW n s false v v' := by
 unfold ok1 at h
 split at h
 ·rename_i xs
  obtain ⟨l', g⟩ := okL0_mv s h
  have := g.agg
  exact ⟨_, by simpa using this⟩
 ·obtain ⟨v', g⟩ := ok0_mv s h
  exact ⟨_, .iface _ _ _ g⟩
 ·exact ok0_mv s h
theorem okL1_mv {n : Nat} (s : Nat → Nat) : ∀ {l : List Value}, okL1 n l = true → ∃ l', VWl n s false l l' := by
 intro l
 induction l with
 | nil => exact fun _ => ⟨[], .nil⟩
 | cons v l ih =>
  intro h
  obtain ⟨h1, h2⟩ := andK_true h
  obtain ⟨v', g⟩ := ok1_mv s h1
  obtain ⟨l', g'⟩ := ih h2
  exact ⟨v' :: l', .cons g g'⟩
theorem ok2_mv {n : Nat} (s : Nat → Nat) {v : Value} (h : ok2 n v = true) : ∃ v', VW n s false v v' := by
 unfold ok2 at h
 split at h
 ·rename_i xs
  obtain ⟨l', g⟩ := okL1_mv s h
  have := g.tuple
  exact ⟨_, by simpa using this⟩
 ·exact ok1_mv s h
def allT {α : Type} (f : α → Bool) : Tr α → Bool
 | .e => true
 | .n v l r => andK (match v with | none => true | some x => f x) (andK (allT f l) (allT f r))
theorem allT_getp {α : Type} {f : α → Bool} (p : List Bool) : ∀ {t : Tr α} {x : α}, allT f t = true → Tr.getp p t = some x → f x = true := by
 induction p with
 | nil => intro t x h e; cases t with
  | e => cases e
  | n v l r =>
   have e : v = some x := e
   subst e
   exact (andK_true h).1
 | cons b p ih => intro t x h e; cases t with
  | e => rw [Tr.getp_e] at e; cases e
  | n v l r =>
   rw [Tr.getp_cons] at e
   obtain ⟨_, h2⟩ := andK_true h
   obtain ⟨h3, h4⟩ := andK_true h2
   cases b with
   | false => exact ih h3 e
   | true => exact ih h4 e
theorem allT_get {α : Type} {f : α → Bool} {t : Tr α} {k : Nat} {x : α} (h : allT f t = true) (e : t.get k = some x) : f x = true := allT_getp _ h e
def okMs (n : Nat) : List MapEntry → Bool
 | [] => true
 | e :: es => andK (ok1 n e.val) (okMs n es)
def okB (n : Nat) : Blk → Bool
 | .row c _ _ _ _ fl => andK (allT (ok1 n) c) (Bool.rec (motive := fun _ => Bool) true (allT flat1 c) fl)
 | .mp es _ => okMs n es
 | _ => false
theorem okMs_mv {n : Nat} (s : Nat → Nat) : ∀ {es : List MapEntry}, okMs n es = true → ∃ es', MW n s false es es' := by
 intro es
 induction es with
 | nil => exact fun _ => ⟨[], .nil⟩
 | cons e es ih =>
  intro h
  obtain ⟨h1, h2⟩ := andK_true h
  obtain ⟨v', g⟩ := ok1_mv s h1
  obtain ⟨es', g'⟩ := ih h2
  exact ⟨⟨e.key, v', e.born⟩ :: es', .cons rfl rfl g g'⟩
theorem okB_mv {n : Nat} (s : Nat → Nat) {b : Blk} (h : okB n b = true) : ∃ b', BU n s b b' := by
 cases b with
 | mp es cl =>
  obtain ⟨es', g⟩ := okMs_mv s h
  exact ⟨_, .mp es es' cl g⟩
 | it m a b c => cases h
 | lp st => cases h
 | row c m e u rw fl =>
  obtain ⟨h1, _⟩ := andK_true h
  have key : ∀ v, ok1 n v = true → ∃ v', VW n s false v v' := fun v hv => ok1_mv s hv
  open Classical in
  refine ⟨.row (Tr.mapO (fun v => if hv : ok1 n v = true then some (Classical.choose (key v hv)) else none) c) m e u rw fl, .row _ _ _ _ _ _ _ fun i => ?_⟩
  rw [Tr.get_mapO]
  cases hc : c.get i with
  | none => exact .inl ⟨rfl, rfl⟩
  | some v =>
   have hv := allT_get h1 hc
   refine .inr ⟨v, Classical.choose (key v hv), rfl, ?_, Classical.choose_spec (key v hv)⟩
   show (some v).bind _ = _
   rw [Option.bind_some, dif_pos hv]
def noFn : Value → Bool
 | .func _ _ _ => false
 | _ => true
def isD : Blk → Option Blk
 | .row c n e u rw fl => match allT noFn c with
  | true => some (.row c n e u rw fl)
  | false => none
 | .mp es cl => some (.mp es cl)
 | _ => none
def cleanH (h : Hs) : Hs := ⟨Tr.mapO isD h.hp, h.nx, h.lo⟩
theorem isD_some {b c : Blk} (h : isD b = some c) : c = b := by
 cases b with
 | row x n e u rw fl =>
  have h : (match allT noFn x with | true => some (Blk.row x n e u rw fl) | false => none) = some c := h
  cases hx : allT noFn x with
  | true => rw [hx] at h; injection h with h; exact h.symm
  | false => rw [hx] at h; cases h
 | mp es cl => injection h with h; exact h.symm
 | it a b c d => cases h
 | lp s => cases h
theorem allT_imp {α : Type} {f g : α → Bool} (hfg : ∀ x, f x = true → g x = true) : ∀ {t : Tr α}, allT f t = true → allT g t = true := by
 intro t
 induction t with
 | e => intro _; rfl
 | n v l r il ir =>
  intro h
  obtain ⟨h1, h2⟩ := andK_true h
  obtain ⟨h3, h4⟩ := andK_true h2
  show andK _ (andK (allT g l) (allT g r)) = true
  rw [il h3, ir h4]
  cases v with
  | none => rfl
  | some x => show andK (g x) (andK true true) = true; rw [hfg x h1]; rfl
def okH (h : Hs) : Bool := allT (okB h.nx) h.hp
theorem okB_isD {n : Nat} {b : Blk} (h : okB n b = true) : isD b = some b := by
 cases b with
 | row x m e u rw fl =>
  have h1 := allT_imp (g := noFn) (fun v hv => by
   cases v with
   | func f a c => cases hv
   | _ => rfl) (andK_true h).1
  show (match allT noFn x with | true => some (Blk.row x m e u rw fl) | false => none) = _
  rw [h1]
 | mp es cl => rfl
 | it a b c d => cases h
 | lp s => cases h
theorem St.clean {B : Nat} {ρ ρ' : Ren} {h h' : Hs} {w w' : World} (hk : okH h = true) (S : St B ρ h w ρ' h' w') : St B ρ h w ρ' (cleanH h') w' := by
 have get : ∀ id b, (cleanH h').hp.get id = some b → h'.hp.get id = some b := fun id b e => by
  have e : (Tr.mapO isD h'.hp).get id = some b := e
  rw [Tr.get_mapO] at e
  cases hb : h'.hp.get id with
  | none => rw [hb] at e; cases e
  | some c => rw [hb] at e; have := isD_some (show isD c = some b from e); rw [this]
 refine ⟨⟨S.hr.base, S.hr.dom, fun id b e => S.hr.has id b (get id b e), fun id id' b b' H H' e e' => S.hr.inj id id' b b' H H' (get _ _ e) (get _ _ e')⟩, S.nx, S.le, S.old, S.below, S.size, S.lo, fun id b e hl => ?_, fun id b e hid => S.gone id b (get _ _ e) hid,
  fun id b e hid => S.newrw id b (get _ _ e) hid, S.frame, S.fresh⟩
 show (Tr.mapO isD h'.hp).get id = some b
 rw [Tr.get_mapO, S.keep id b e hl]
 exact okB_isD (allT_get hk e)
def RunsOf (tab : RnK → RnK) (d : Nat) (f : FuncId) : Runs0 := fun args h v h'' => okH h = true ∧ ∃ h', runK tab d f args h = some (.val v h') ∧ h'' = cleanH h'
theorem KOk.runs {P : Program} (hm : P.follows .mixedOrders = true) (hN : Named P) {F : Nat} {tab : RnK → RnK} (hT : TabOk P F tab) {sums : List (Nat × SmK)} (hS : SumsOk P sums) (d : Nat) (f : FuncId) : KOk P f (RunsOf (tabF tab sums) d f) :=
 fun args args' v h h'' B ρ w hr hl R => by
  obtain ⟨hk, h', hr, rfl⟩ := hr
  refine (runF_ok hm hN hT hS d f args args' v h h' B ρ w hr hl R).mono fun e w' hh => ?_
  obtain ⟨v', ρ', h1, h2, h3⟩ := hh
  exact ⟨v', ρ', h1, h2, h3.clean hk⟩
theorem KOk.sub {P : Program} {f : FuncId} {K K' : Runs0} (h : KOk P f K) (hs : ∀ a h v h', K' a h v h' → K a h v h') : KOk P f K' :=
 fun args args' v h0 h' B ρ w hr hl R => h args args' v h0 h' B ρ w (hs _ _ _ _ hr) hl R
theorem lo_ex (s : Nat → Nat) (P : Nat → Prop) (lo : Nat) : ∀ n : Nat, ∃ x, x ≤ lo ∧ (∀ id, id < n → P id → x ≤ s id) ∧ ∀ y, y ≤ lo → (∀ id, id < n → P id → y ≤ s id) → y ≤ x := by
 intro n
 induction n with
 | zero => exact ⟨lo, Nat.le_refl _, fun id h => by omega, fun y h _ => h⟩
 | succ n ih =>
  obtain ⟨x, h1, h2, h3⟩ := ih
  by_cases hp : P n
  ·refine ⟨min x (s n), by omega, fun id hid hP => ?_, fun y hy hall => ?_⟩
   ·by_cases e : id = n
    ·subst e; omega
    ·have := h2 id (by omega) hP; omega
   ·have a1 := h3 y hy fun id hid hP => hall id (by omega) hP
    have a2 := hall n (by omega) hp
    omega
  ·refine ⟨x, h1, fun id hid hP => ?_, fun y hy hall => h3 y hy fun id hid hP => hall id (by omega) hP⟩
   by_cases e : id = n
   ·subst e; exact absurd hP hp
   ·exact h2 id (by omega) hP
theorem Frm.ex {s : Nat → Nat} {h0 h0' h : Hs} (E : Emb s h0 h) (hn : h0.nx ≤ h0'.nx) (hk : okH h0' = true) : ∃ h', Frm s h0 h0' h h' := by
 have hmv : ∀ id b0, h0'.hp.get id = some b0 → ∃ b, BU h0'.nx (nextS s h0.nx h.nx) b0 b := fun id b0 e => okB_mv _ (allT_get hk e)
 let T : Nat → Prop := fun id => ∃ b0, h0.hp.get id = some b0 ∧ isRw b0 = true ∧ h0'.lo ≤ id
 open Classical in
 let mv : Nat → Option Blk := fun id => if e : ∃ b0, h0'.hp.get id = some b0 then some (Classical.choose (hmv id (Classical.choose e) (Classical.choose_spec e))) else none
 have mv1 : ∀ id, (h0'.hp.get id = none ∧ mv id = none) ∨ ∃ b0 b, h0'.hp.get id = some b0 ∧ mv id = some b ∧ BU h0'.nx (nextS s h0.nx h.nx) b0 b := fun id => by
  by_cases e : ∃ b0, h0'.hp.get id = some b0
  ·refine .inr ⟨Classical.choose e, Classical.choose (hmv id (Classical.choose e) (Classical.choose_spec e)), Classical.choose_spec e, ?_, Classical.choose_spec (hmv id (Classical.choose e) (Classical.choose_spec e))⟩
   show dite _ _ _ = _
   rw [dif_pos e]
  ·refine .inl ⟨?_, ?_⟩
   ·cases hg : h0'.hp.get id with
    | none => rfl
    | some b => exact absurd ⟨b, hg⟩ e
   ·show dite _ _ _ = _
    rw [dif_neg e]
 open Classical in
 obtain ⟨t, ht⟩ := Tr.build (fun k => if k < h.nx then (if e : ∃ id, T id ∧ s id = k then mv (Classical.choose e) else h.hp.get k) else mv (k - h.nx + h0.nx)) h.hp (h.nx + (h0'.nx - h0.nx))
 obtain ⟨lo, l1, l2, l3⟩ := lo_ex s T h.lo h0.nx
 have inT : ∀ id, T id → id < h0.nx := fun id ⟨b0, g, _⟩ => (E.at_ id b0 g).1
 have uniq : ∀ id id', T id → T id' → s id = s id' → id = id' := fun id id' ⟨b0, g1, g2, g3⟩ ⟨b1, q1, q2, q3⟩ e => by
  by_cases hh : id = id'
  ·exact hh
  ·exact absurd e (E.inj id id' b0 b1 g1 q1 g2 hh)
 refine ⟨⟨t, h.nx + (h0'.nx - h0.nx), lo⟩, rfl, l1, fun id b0 g1 g2 g3 => l2 id (inT id ⟨b0, g1, g2, g3⟩) ⟨b0, g1, g2, g3⟩, fun x hx hall => l3 x hx fun id _ ⟨b0, g1, g2, g3⟩ => hall id b0 g1 g2 g3, fun k hk2 hno => ?_, fun id hid => ?_, fun k hk2 => ?_⟩
 ·show t.get k = _
  rw [ht k, if_pos (by omega)]
  show (if k < h.nx then _ else _) = _
  rw [if_pos hk2, dif_neg]
  exact fun ⟨id, ⟨b0, g1, g2, g3⟩, e⟩ => hno id b0 g1 g2 g3 e
 ·show (h0'.hp.get id = none ∧ t.get (nextS s h0.nx h.nx id) = none) ∨ ∃ b0 b, _ ∧ t.get (nextS s h0.nx h.nx id) = some b ∧ _
  have e : t.get (nextS s h0.nx h.nx id) = mv id := by
   rcases hid with ⟨a, b⟩ | hT
   ·unfold nextS
    rw [if_neg (by omega), ht, if_pos (by omega)]
    show (if h.nx + (id - h0.nx) < h.nx then _ else _) = _
    rw [if_neg (by omega), show h.nx + (id - h0.nx) - h.nx + h0.nx = id by omega]
   ·have hT : T id := hT
    have hlt := inT id hT
    have hlt2 := E.lt id hlt
    unfold nextS
    rw [if_pos hlt, ht, if_pos (by omega)]
    show (if s id < h.nx then _ else _) = _
    have ex : ∃ id2, T id2 ∧ s id2 = s id := ⟨id, hT, rfl⟩
    rw [if_pos hlt2, dif_pos ex, uniq _ _ (Classical.choose_spec ex).1 hT (Classical.choose_spec ex).2]
  rw [e]
  exact mv1 id
 ·have hk2 : h.nx + (h0'.nx - h0.nx) ≤ k := hk2
  show t.get k = _
  rw [ht k, if_neg (by omega)]
theorem VW.trans {n n' : Nat} {s s' : Nat → Nat} {v0 v1 : Value} (h : VW n s true v0 v1) : ∀ v2, VW n' s' true v1 v2 → VW n (fun id => s' (s id)) true v0 v2 := by
 induction h with
 | dunno v _ => exact fun v2 _ => .dunno v2 (.inl rfl)
 | bool b => exact fun v2 g => by cases g; exact .bool _
 | int k i => exact fun v2 g => by cases g; exact .int _ _
 | string x => exact fun v2 g => by cases g; exact .string _
 | nilptr => exact fun v2 g => by cases g; exact .nilptr
 | ptr id off h => exact fun v2 g => by cases g; exact .ptr id off h
 | nilslice => exact fun v2 g => by cases g; exact .nilslice
 | nilmap => exact fun v2 g => by cases g; exact .nilmap
 | map id h => exact fun v2 g => by cases g; exact .map id h
 | slice id off l c c' h h1 h2 h3 =>
  intro v2 g
  cases g with
  | slice _ _ _ _ c2 g1 g2 g3 g4 => exact .slice id off l c c2 h h1 (Nat.le_trans h2 g3) (.inl rfl)
 | empty b o k => exact fun v2 g => by cases g; exact .empty _ _ _
 | nilFunc => exact fun v2 g => by cases g; exact .nilFunc
 | nilIface => exact fun v2 g => by cases g; exact .nilIface
 | func f => exact fun v2 g => by cases g; exact .func f
 | iface t v v2 _ ih =>
  intro v3 g
  cases g with
  | iface _ _ v4 h => exact .iface t v v4 (ih v4 h)
 | agg xs ys h _ ih =>
  intro v3 g
  cases g with
  | agg _ zs h1 h2 => exact .agg xs zs (h.trans h1) fun i a b => ih i a (by omega) _ (h2 i (by omega) b)
 | tuple xs ys h _ ih =>
  intro v3 g
  cases g with
  | tuple _ zs h1 h2 => exact .tuple xs zs (h.trans h1) fun i a b => ih i a (by omega) _ (h2 i (by omega) b)
theorem MW.trans {n n' : Nat} {s s' : Nat → Nat} {es es1 : List MapEntry} (h : MW n s true es es1) : ∀ es2, MW n' s' true es1 es2 → MW n (fun id => s' (s id)) true es es2 := by
 induction h with
 | nil => exact fun es2 g => by cases g; exact .nil
 | cons a b c _ ih =>
  intro es2 g
  cases g with
  | cons hk hb hv t => exact .cons (hk.trans a) (hb.trans b) (c.trans _ hv) (ih _ t)
theorem BW.trans {n n' : Nat} {s s' : Nat → Nat} {b0 b1 b2 : Blk} (h : BW n s b0 b1) (g : BW n' s' b1 b2) : BW n (fun id => s' (s id)) b0 b2 := by
 cases h with
 | row c0 c n0 n1 e u rw0 rw fl0 fl hrw hfl hc =>
  cases g with
  | row _ c2 _ n2 _ _ _ rw2 _ fl2 grw gfl gc =>
   refine .row c0 c2 n0 n2 e u rw0 rw2 fl0 fl2 (fun h => ⟨(grw (hrw h).1).1, (hrw h).2.1.trans (grw (hrw h).1).2.1, (hrw h).2.2.1, (grw (hrw h).1).2.2.2⟩) (fun h => ⟨(gfl (hfl h).1).1, (hfl h).2⟩) (fun i v0 hv => ?_)
   obtain ⟨v, x1, x2⟩ := hc i v0 hv
   obtain ⟨v2, y1, y2⟩ := gc i v x1
   exact ⟨v2, y1, x2.trans _ y2⟩
 | mp es es1 cl h =>
  cases g with
  | mp _ es2 _ g => exact .mp es es2 cl (h.trans _ g)
theorem BW.mono {n n' : Nat} {s s' : Nat → Nat} (hn : n ≤ n') (hs : ∀ id, id < n → s' id = s id) {b0 b : Blk} (h : BW n s b0 b) : BW n' s' b0 b := by
 cases h with
 | row c0 c n0 n1 e u rw0 rw fl0 fl hrw hfl hc =>
  exact .row c0 c n0 n1 e u rw0 rw fl0 fl hrw hfl (fun i v0 hv => by
   obtain ⟨v, y1, y2⟩ := hc i v0 hv
   exact ⟨v, y1, y2.mono hn hs⟩)
 | mp es es' cl h => exact .mp es es' cl (h.mono hn hs)
theorem Emb.trans {s s' : Nat → Nat} {h0 h1 h2 : Hs} (E : Emb s h0 h1) (E' : Emb s' h1 h2) : Emb (fun id => s' (s id)) h0 h2 := by
 refine ⟨fun id b0 g => ?_, fun id hid => E'.lt _ (E.lt _ hid), fun id id' b b' g g' hr hne => ?_⟩
 ·obtain ⟨q1, b, q2, q3⟩ := E.at_ id b0 g
  obtain ⟨_, c, r2, r3⟩ := E'.at_ _ b q2
  exact ⟨q1, c, r2, q3.trans r3⟩
 ·obtain ⟨q1, c, q2, q3⟩ := E.at_ id b g
  obtain ⟨q1', c', q2', q3'⟩ := E.at_ id' b' g'
  exact E'.inj _ _ c c' q2 q2' (q3.rw_imp hr) (E.inj id id' b b' g g' hr hne)
theorem Emb.ext {s : Nat → Nat} {h0 h h' : Hs} (E : Emb s h0 h) (hn : h.nx ≤ h'.nx) (hg : ∀ k, k < h.nx → h'.hp.get k = h.hp.get k) : Emb s h0 h' := by
 refine ⟨fun id b0 g => ?_, fun id hid => Nat.lt_of_lt_of_le (E.lt id hid) hn, E.inj⟩
 obtain ⟨q1, b, q2, q3⟩ := E.at_ id b0 g
 exact ⟨q1, b, by rw [hg _ (E.lt id q1)]; exact q2, q3⟩
inductive SB where
 | row (e u : Nat) (rw : Bool) (L : List Value)
 | mp (es : List MapEntry) (cl : Nat)
def SB.blk : SB → Blk
 | .row e u rw L => .row (ofList L) L.length e u rw false
 | .mp es cl => .mp es cl
def smallH (L : List SB) : Hs := ⟨ofList (L.map SB.blk), L.length, L.length⟩
theorem smallH_get (L : List SB) (id : Nat) : (smallH L).hp.get id = (L[id]?).map SB.blk := by
 show (ofList (L.map SB.blk)).get id = _
 rw [get_ofList, List.getElem?_map]
def holdK (h0 h0' : Hs) : Nat → Bool
 | 0 => true
 | k + 1 => andK (holdK h0 h0' k) (match h0'.hp.getK k with
  | none => true
  | some b => match h0.hp.getK k with
   | none => false
   | some b0 => andK (eqBo (isRw b0) (isRw b)) (match andK (isRw b0) (Nat.ble h0'.lo k) with | true => true | false => eqBl b0 b))
end
end Go.Gev
namespace Go.Gev
noncomputable section
def refs0 : Value → List Nat
 | .pointer (some ⟨id, _, none⟩) => [id]
 | .slice (some ⟨id, _, none⟩) _ _ => [id]
 | .map (some id) => [id]
 | _ => []
def refsL0 : List Value → List Nat
 | [] => []
 | v :: l => refs0 v ++ refsL0 l
def refs1 : Value → List Nat
 | .agg xs => refsL0 xs.toList
 | v => refs0 v
def refsL : List Value → List Nat
 | [] => []
 | v :: l => refs1 v ++ refsL l
def refsM : List MapEntry → List Nat
 | [] => []
 | e :: l => refs1 e.val ++ refsM l
def refsB : SB → List Nat
 | .row _ _ _ L => refsL0 L
 | .mp es _ => refsM es
def memM (a : Nat) : List Nat → Bool
 | [] => false
 | b :: l => Bool.rec (motive := fun _ => Bool) (memM a l) true (Nat.beq a b)
def pinL : List SB → Nat → List Nat → Bool
 | [], _, _ => true
 | x :: xs, i, known => andK (memM i known) (pinL xs (Nat.succ i) (refsB x ++ known))
def pinK (args : List Value) (A : List SB) : Bool := pinL A 0 (refsL args)
theorem memM_ok {a : Nat} : ∀ {l : List Nat}, memM a l = true → a ∈ l := by
 intro l
 induction l with
 | nil => intro h; cases h
 | cons b l ih =>
  intro h
  unfold memM at h
  cases hb : Nat.beq a b with
  | true => exact List.mem_cons.2 (.inl (Nat.eq_of_beq_eq_true hb))
  | false => rw [hb] at h; exact List.mem_cons_of_mem _ (ih h)
section
variable {n : Nat} {s s2 : Nat → Nat} {wk : Bool}
theorem refs0_pin {v0 v : Value} (h : VW n s wk v0 v) (h2 : VW n s2 wk v0 v) : ∀ id ∈ refs0 v0, s id = s2 id := by
 intro id hid
 cases h with
 | ptr i o hl =>
  have : id = i := by simpa [refs0] using hid
  subst this
  generalize e : (Value.pointer (some ⟨s id, o, none⟩)) = x at h2
  cases h2 with
  | ptr _ _ _ => injection e with e; injection e with e; injection e
 | slice i o l c c' hl h1 h2' h3 =>
  have : id = i := by simpa [refs0] using hid
  subst this
  generalize e : (Value.slice (some ⟨s id, o, none⟩) l c') = x at h2
  cases h2 with
  | slice _ _ _ _ _ _ _ _ _ => injection e with e _ _; injection e with e; injection e
 | map i hl =>
  have : id = i := by simpa [refs0] using hid
  subst this
  generalize e : (Value.map (some (s id))) = x at h2
  cases h2 with
  | map _ _ => injection e with e; injection e
 | _ => simp [refs0] at hid
theorem refsL0_mem : ∀ {L : List Value} {id : Nat}, id ∈ refsL0 L → ∃ (i : Nat) (v : Value), L[i]? = some v ∧ id ∈ refs0 v := by
 intro L
 induction L with
 | nil => intro id h; simp [refsL0] at h
 | cons v L ih =>
  intro id h
  rcases List.mem_append.1 h with e | e
  ·exact ⟨0, v, rfl, e⟩
  ·obtain ⟨i, w, q1, q2⟩ := ih e
   exact ⟨i + 1, w, by simpa using q1, q2⟩
theorem refs1_pin {v0 v : Value} (h : VW n s wk v0 v) (h2 : VW n s2 wk v0 v) : ∀ id ∈ refs1 v0, s id = s2 id := by
 intro id hid
 cases h with
 | agg xs ys h1 h' =>
  cases h2 with
  | agg _ _ g1 g' =>
   obtain ⟨i, w, q1, q2⟩ := refsL0_mem (show id ∈ refsL0 xs.toList from hid)
   obtain ⟨hi, e⟩ := List.getElem?_eq_some_iff.1 q1
   have hi : i < xs.size := by simpa using hi
   have e : xs[i] = w := by simpa using e
   subst e
   exact refs0_pin (h' i hi (by omega)) (g' i hi (by omega)) id q2
 | ptr i o hl => exact refs0_pin (.ptr i o hl) h2 id hid
 | slice i o l c c' hl h1 h2' h3 => exact refs0_pin (.slice i o l c c' hl h1 h2' h3) h2 id hid
 | map i hl => exact refs0_pin (.map i hl) h2 id hid
 | _ => simp [refs1, refs0] at hid
theorem refsL_pin : ∀ {as bs : List Value}, VWs n s as bs → VWs n s2 as bs → ∀ id ∈ refsL as, s id = s2 id := by
 intro as bs h
 induction h with
 | nil => intro _ id hid; simp [refsL] at hid
 | cons h _ ih =>
  intro g id hid
  cases g with
  | cons g1 g2 =>
   rcases List.mem_append.1 hid with e | e
   ·exact refs1_pin h g1 id e
   ·exact ih g2 id e
theorem refsM_pin : ∀ {as bs : List MapEntry}, MW n s true as bs → MW n s2 true as bs → ∀ id ∈ refsM as, s id = s2 id := by
 intro as bs h
 induction h with
 | nil => intro _ id hid; simp [refsM] at hid
 | cons _ _ h _ ih =>
  intro g id hid
  cases g with
  | cons _ _ g1 g2 =>
   rcases List.mem_append.1 hid with e | e
   ·exact refs1_pin h g1 id e
   ·exact ih g2 id e
theorem refsB_pin {x : SB} {b : Blk} (h : BW n s x.blk b) (g : BW n s2 x.blk b) : ∀ id ∈ refsB x, s id = s2 id := by
 intro id hid
 cases x with
 | mp es cl =>
  have h : BW n s (.mp es cl) b := h
  have g : BW n s2 (.mp es cl) b := g
  cases h with
  | mp _ es' _ hm =>
   cases g with
   | mp _ _ _ gm => exact refsM_pin hm gm id hid
 | row e u rw L =>
  have h : BW n s (.row (ofList L) L.length e u rw false) b := h
  have g : BW n s2 (.row (ofList L) L.length e u rw false) b := g
  obtain ⟨i, v, q1, q2⟩ := refsL0_mem hid
  cases h with
  | row _ c _ _ _ _ _ _ _ _ _ _ hc =>
   cases g with
   | row _ _ _ _ _ _ _ _ _ _ _ _ gc =>
    obtain ⟨y, y1, y2⟩ := hc i v (by rw [get_ofList]; exact q1)
    obtain ⟨z, z1, z2⟩ := gc i v (by rw [get_ofList]; exact q1)
    rw [y1] at z1; injection z1 with z1; subst z1
    exact refs0_pin y2 z2 id q2
theorem pinL_ok {h : Hs} : ∀ {xs : List SB} {A : List SB} {i : Nat} {known : List Nat}, Emb s (smallH A) h → Emb s2 (smallH A) h → A.length = n → pinL xs i known = true → (∀ j x, xs[j]? = some x → A[i + j]? = some x) → (∀ id ∈ known, s id = s2 id) →
 ∀ j, j < xs.length → s (i + j) = s2 (i + j) := by
 intro xs
 induction xs with
 | nil => intro A i known _ _ _ _ _ _ j hj; simp at hj
 | cons x xs ih =>
  intro A i known E E2 hn hp hA hk j hj
  obtain ⟨h1, h2⟩ := andK_true hp
  have e0 : s i = s2 i := hk i (memM_ok h1)
  cases j with
  | zero => exact e0
  | succ j =>
   have hx : A[i]? = some x := hA 0 x rfl
   have hb : (smallH A).hp.get i = some x.blk := by rw [smallH_get, hx]; rfl
   obtain ⟨_, b, q1, q2⟩ := E.at_ i _ hb
   obtain ⟨_, b2, r1, r2⟩ := E2.at_ i _ hb
   rw [← e0, q1] at r1; injection r1 with r1; subst r1
   have := ih (i := Nat.succ i) E E2 hn h2 (fun j y hy => by rw [show i.succ + j = i + (j + 1) by omega]; exact hA (j + 1) y (by simpa using hy)) (fun id hid => by
    rcases List.mem_append.1 hid with e | e
    ·exact refsB_pin q2 r2 id e
    ·exact hk id e) j (by simpa using hj)
   rw [show i + (j + 1) = i.succ + j by omega]
   exact this
end
theorem pinK_ok {args0 args : List Value} {A : List SB} {s s2 : Nat → Nat} {h : Hs} (hp : pinK args0 A = true) (E : Emb s (smallH A) h) (E2 : Emb s2 (smallH A) h) (hw : VWs A.length s args0 args) (hw2 : VWs A.length s2 args0 args) : ∀ id, id < A.length → s id = s2 id := by
 intro id hid
 have := pinL_ok (n := A.length) E E2 rfl hp (fun j x hx => by rw [Nat.zero_add]; exact hx) (refsL_pin hw hw2) id hid
 rwa [Nat.zero_add] at this
structure FmRun (R0 : List Value → Hs → An) (args0 : List Value) (A : List SB) (v0 : Value) (h0' : Hs) : Prop where
 run : ∃ hr, R0 args0 (smallH A) = some (.val v0 hr) ∧ h0' = cleanH hr
 ok0 : okH (smallH A) = true
 ok' : okH h0' = true
 nx : A.length ≤ h0'.nx
 hold : holdK (smallH A) h0' A.length = true
 okv : ok2 h0'.nx v0 = true
def chkRun (R0 : List Value → Hs → An) (args0 : List Value) (A : List SB) (post : Value → Hs → Bool) : Bool :=
 match R0 args0 (smallH A) with
 | some (.val v hr) => andK (okH (smallH A)) (andK (okH (cleanH hr)) (andK (Nat.ble A.length (cleanH hr).nx) (andK (holdK (smallH A) (cleanH hr) A.length) (andK (ok2 (cleanH hr).nx v) (post v (cleanH hr))))))
 | _ => false
theorem chkRun_ok {R0 : List Value → Hs → An} {args0 : List Value} {A : List SB} {post : Value → Hs → Bool} (h : chkRun R0 args0 A post = true) : ∃ v0 h0', FmRun R0 args0 A v0 h0' ∧ post v0 h0' = true := by
 unfold chkRun at h
 split at h
 ·rename_i v hr e
  obtain ⟨h1, h⟩ := andK_true h
  obtain ⟨h2, h⟩ := andK_true h
  obtain ⟨h3, h⟩ := andK_true h
  obtain ⟨h4, h⟩ := andK_true h
  obtain ⟨h5, h6⟩ := andK_true h
  exact ⟨v, cleanH hr, ⟨⟨hr, e, rfl⟩, h1, h2, Nat.le_of_ble_eq_true h3, h4, h5⟩, h6⟩
 ·cases h
def KI {ι : Type} (P : ι → Prop) (args : ι → List Value) (A : ι → List SB) (R0 : List Value → Hs → An) : Runs0 := fun a h v h' => ∃ i, P i ∧ a = args i ∧ h = smallH (A i) ∧ FmRun R0 (args i) (A i) v h'
theorem KI_ok {P : Program} {ι : Type} (hm : P.follows .mixedOrders = true) (hN : Named P) {F : Nat} {tab : RnK → RnK} (hT : TabOk P F tab) {sums : List (Nat × SmK)} (hS : SumsOk P sums) (d : Nat) (f : FuncId) (p : ι → Prop) (args : ι → List Value) (A : ι → List SB) :
 KOk P f (KI p args A (runK (tabF tab sums) d f)) :=
 (KOk.runs hm hN hT hS d f).sub fun a h v h' ⟨i, _, e1, e2, r⟩ => by
  obtain ⟨hr, q1, q2⟩ := r.run
  subst e1; subst e2
  exact ⟨r.ok0, hr, q1, q2⟩
theorem nextS_congr {s s2 : Nat → Nat} {n0 nx : Nat} (h : ∀ id, id < n0 → s id = s2 id) : nextS s n0 nx = nextS s2 n0 nx := by
 funext id
 unfold nextS
 by_cases e : id < n0
 ·rw [if_pos e, if_pos e, h id e]
 ·rw [if_neg e, if_neg e]
theorem Frm.congr {s s2 : Nat → Nat} {h0 h0' h h' : Hs} (F : Frm s2 h0 h0' h h') (e : ∀ id, id < h0.nx → s id = s2 id) (hl : ∀ id b, h0.hp.get id = some b → id < h0.nx) : Frm s h0 h0' h h' := by
 have en := nextS_congr (nx := h.nx) e
 refine ⟨F.nx, F.lo, fun id b0 g1 g2 g3 => by rw [e id (hl id b0 g1)]; exact F.lo1 id b0 g1 g2 g3, fun x hx hall => F.lo2 x hx fun id b0 g1 g2 g3 => by rw [← e id (hl id b0 g1)]; exact hall id b0 g1 g2 g3,
  fun k hk hno => F.old k hk fun id b0 g1 g2 g3 => by rw [← e id (hl id b0 g1)]; exact hno id b0 g1 g2 g3, fun id hid => ?_, F.beyond⟩
 rw [en]
 exact F.new id hid
theorem smallH_lt {A : List SB} {id : Nat} {b : Blk} (g : (smallH A).hp.get id = some b) : id < A.length := by
 rw [smallH_get] at g
 cases hx : A[id]? with
 | none => rw [hx] at g; cases g
 | some x => exact (List.getElem?_eq_some_iff.1 hx).1
theorem w_fm {ι : Type} {P : ι → Prop} {args : ι → List Value} {A : ι → List SB} {R0 : List Value → Hs → An} {R : RnK} {f : FuncId} {a : List Value} {h : Hs} {s : Nat → Nat} {v0 : Value} {h0' : Hs}
 (hR : ∀ o, fmG (KI P args A R0) a h = some o → R f a h = some o) (i : ι) (hi : P i) (E : Emb s (smallH (A i)) h) (hw : VWs (A i).length s (args i) a) (pk : pinK (args i) (A i) = true)
 (uniq : ∀ j s2, P j → Emb s2 (smallH (A j)) h → VWs (A j).length s2 (args j) a → args j = args i ∧ A j = A i) (r : FmRun R0 (args i) (A i) v0 h0') :
 WP (R f a h) fun v h' => VW h0'.nx (nextS s (A i).length h.nx) false v0 v ∧ Frm s (smallH (A i)) h0' h h' := by
 obtain ⟨vx, hvx⟩ := ok2_mv (nextS s (A i).length h.nx) r.okv
 obtain ⟨hx, hFx⟩ := Frm.ex (h := h) E r.nx r.ok'
 obtain ⟨v, h', e1, s2, args2, h02, h02', v02, ⟨j, hj, q1, q2, q3⟩, E2, w2, u2, F2⟩ := fmG_some (K := KI P args A R0) (args := a) (h := h) ⟨s, args i, smallH (A i), h0', v0, ⟨i, hi, rfl, rfl, r⟩, E, hw, hvx, hFx⟩
 subst q1; subst q2
 obtain ⟨p1, p2⟩ := uniq j s2 hj E2 w2
 rw [p1, p2] at q3
 have w2 : VWs (A j).length s2 (args j) a := w2
 have F2 : Frm s2 (smallH (A j)) h02' h h' := F2
 have u2 : VW h02'.nx (nextS s2 (A j).length h.nx) false v02 v := u2
 rw [p2] at E2 w2 F2 u2
 rw [p1] at w2
 have es := pinK_ok pk E E2 hw w2
 obtain ⟨hr, x1, x2⟩ := r.run
 obtain ⟨hr2, y1, y2⟩ := q3.run
 rw [x1] at y1
 injection y1 with y1; injection y1 with y1 y3
 subst y1; subst y3
 rw [← x2] at y2
 subst y2
 refine ⟨v, h', hR _ e1, ?_, F2.congr es fun id b g => smallH_lt g⟩
 rw [nextS_congr es]
 exact u2
section
variable {n : Nat} {s : Nat → Nat} {v : Value}
theorem VW.int_inv {k : IntKind} {i : Int} (h : VW n s false (.int k i) v) : v = .int k i := by cases h; rfl
theorem VW.bool_inv {b : Bool} (h : VW n s false (.bool b) v) : v = .bool b := by cases h; rfl
theorem VW.slice_inv {id o l c : Nat} (h : VW n s false (.slice (some ⟨id, o, none⟩) l c) v) : v = .slice (some ⟨s id, o, none⟩) l c ∧ id < n ∧ l ≤ c := by
 cases h with
 | slice _ _ _ _ c' hl h1 h2 h3 =>
  rcases h3 with h3 | h3
  ·cases h3
  ·subst h3; exact ⟨rfl, hl, h1⟩
end
def Turned (s : Nat → Nat) (h0 h0' : Hs) (k : Nat) : Prop := ∃ id b0, h0.hp.get id = some b0 ∧ isRw b0 = true ∧ h0'.lo ≤ id ∧ s id = k
theorem Frm.old' {s : Nat → Nat} {h0 h0' h h' : Hs} (F : Frm s h0 h0' h h') {k : Nat} (hk : k < h.nx) (hn : ¬ Turned s h0 h0' k) : h'.hp.get k = h.hp.get k := F.old k hk fun id b0 g1 g2 g3 e => hn ⟨id, b0, g1, g2, g3, e⟩
end
end Go.Gev
namespace Go.Gev
variable {Q : Value → Hs → Prop} {h0 : Hs} {S : List Nat} {h : Hs} {m : List Th}
def Sm (h u : Hs) : Prop := u.nx = h.nx ∧ u.lo = h.lo ∧ ∀ id, id < h.nx → u.hp.get id = h.hp.get id
def MvN (N : Nat) (h u : Hs) : Prop := h.nx ≤ u.nx ∧ u.lo ≤ h.lo ∧ (∀ x, x ≤ h.lo → x ≤ N → x ≤ u.lo) ∧ ∀ id, id < N → u.hp.get id = h.hp.get id
theorem Sm.same {h u : Hs} (s : Sm h u) : Same h u := ⟨⟨Nat.le_of_eq s.1.symm, s.2.2⟩, s.2.1⟩
theorem Frm.same {s : Nat → Nat} {A : List SB} {h0' h u : Hs} (F : Frm s (smallH A) h0' h u) (hl : A.length ≤ h0'.lo) : Same h u := by
 have no : ∀ id b0, (smallH A).hp.get id = some b0 → ¬ h0'.lo ≤ id := fun id b0 g => by have := smallH_lt g; omega
 refine ⟨⟨by have := F.nx; omega, fun id hid => F.old' hid fun ⟨i, b0, g1, _, g3, _⟩ => no i b0 g1 g3⟩, Nat.le_antisymm F.lo (F.lo2 h.lo (Nat.le_refl _) fun id b0 g1 _ g3 => absurd g3 (no id b0 g1))⟩
theorem Frm.sm {s : Nat → Nat} {A : List SB} {h0' h u : Hs} (F : Frm s (smallH A) h0' h u) (hn : h0'.nx = A.length) (hl : A.length ≤ h0'.lo) : Sm h u := by
 have q := F.same hl
 refine ⟨?_, q.2, q.1.2⟩
 have := F.nx
 have e : (smallH A).nx = A.length := rfl
 omega
theorem Frm.mv {s : Nat → Nat} {A : List SB} {h0' h u : Hs} {N : Nat} (F : Frm s (smallH A) h0' h u) (hN : ∀ id, id < A.length → N ≤ s id) (hNh : N ≤ h.nx) : MvN N h u := by
 refine ⟨by have := F.nx; omega, F.lo, fun x h1 h2 => F.lo2 x h1 fun id b0 g1 _ _ => Nat.le_trans h2 (hN id (smallH_lt g1)), fun id hid => F.old' (Nat.lt_of_lt_of_le hid hNh) fun ⟨i, b0, g1, _, _, e⟩ => ?_⟩
 have := hN i (smallH_lt g1)
 omega
theorem Sto.mv {N : Nat} {u : Hs} (H : Sto h0 S h m) (M : MvN N h u) (hN : h0.nx ≤ N) (hs : S = []) (ht' : ∀ t ∈ m, ∀ b, t.id = some b → b < N) : Sto h0 S u m := by
 subst hs
 refine ⟨Nat.le_trans H.nx M.1, fun id hid hs => (M.2.2.2 id (by omega)).trans (H.fr id hid hs), fun k hk hs => M.2.2.1 k (H.lo k hk hs) (by omega), fun t hm => Th.congr (H.ok t hm) fun b hb => M.2.2.2 b (ht' t hm b hb), fun t hm b hb => ⟨by have := (H.ids t hm b hb).1; have := M.1; omega, (H.ids t hm b hb).2⟩, fun id hid hl => ?_, H.dj⟩
 rw [M.2.2.2 id (by omega)]
 exact H.chg id hid (Nat.lt_of_lt_of_le hl M.2.1)
end Go.Gev
namespace Go.Gev
noncomputable section
abbrev Prs := List (Nat × Nat)
def apC (a b : Option Prs) : Option Prs := Option.rec (motive := fun _ => Option Prs) none (fun x => Option.rec (motive := fun _ => Option Prs) none (fun y => some (x ++ y)) b) a
end
section
variable {n n2 : Nat} {s s2 : Nat → Nat}
def Ag (s s2 : Nat → Nat) (o : Option Prs) : Prop := ∃ l, o = some l ∧ ∀ p ∈ l, s p.1 = s2 p.2
theorem Ag.nil : Ag s s2 (some []) := ⟨[], rfl, fun p h => by simp at h⟩
theorem Ag.one {i j : Nat} (h : s i = s2 j) : Ag s s2 (some [(i, j)]) := ⟨_, rfl, fun p hp => by rw [List.mem_singleton.1 hp]; exact h⟩
theorem Ag.ap {a b : Option Prs} (ha : Ag s s2 a) (hb : Ag s s2 b) : Ag s s2 (apC a b) := by
 obtain ⟨x, rfl, hx⟩ := ha
 obtain ⟨y, rfl, hy⟩ := hb
 exact ⟨x ++ y, rfl, fun p hp => (List.mem_append.1 hp).elim (hx p) (hy p)⟩
end
end Go.Gev
namespace Go.Gev
noncomputable section
end
end Go.Gev
namespace Go.Gev
variable {Q : Value → Hs → Prop} {h0 : Hs} {S : List Nat} {h : Hs} {m : List Th}
def MutS (S : List Nat) (h h' : Hs) : Prop := h.nx ≤ h'.nx ∧ (∀ id, id < h.nx → id ∉ S → h'.hp.get id = h.hp.get id) ∧ (∀ x, x ≤ h.lo → (∀ s ∈ S, x ≤ s) → x ≤ h'.lo) ∧ h'.lo ≤ h.lo ∧ (∀ s ∈ S, h'.lo ≤ s ∨ h'.hp.get s = h.hp.get s)
theorem Sto.enterS (S : List Nat) (m : List Th) (hm : ∀ t ∈ m, t.body h ∧ ∀ b, t.id = some b → b < h.nx ∧ (t.ex = true → b ∈ S)) (dj : ∀ (i j : Nat) (s t : Th), m[i]? = some s → m[j]? = some t → i ≠ j → s.ex = true → ∀ b, s.id = some b → t.id ≠ some b) : Sto h S ⟨h.hp, h.nx, h.nx⟩ m :=
 ⟨Nat.le_refl _, fun _ _ _ => rfl, fun _ hk _ => hk, fun t ht => Th.congr (hm t ht).1 fun _ _ => rfl, fun t ht b hb => ⟨((hm t ht).2 b hb).1, fun e => .inr (((hm t ht).2 b hb).2 e)⟩, fun _ _ _ => rfl, dj⟩
theorem w_clrSN {b : Nat} {h' : Hs} {v : Value} (H : Sto h S h' m) (hb : b < h.nx) (hbS : b ∈ S) (hS : ∀ s ∈ S, s < h.nx) (hne : h'.hp.get b ≠ h.hp.get b) (q : ∀ h'', MutS S h h'' → h''.hp = h'.hp → h''.nx = h'.nx → Q v h'') : WP (clrK h v h') Q := by
 have hlo : h'.lo ≤ b := by
  rcases Nat.lt_or_ge b h'.lo with g | g
  ·exact absurd (H.chg b hb g) hne
  ·exact g
 have e : Nat.blt h'.lo h.nx = true := by rw [blt_eq]; exact decide_eq_true (by omega)
 rw [clrK_eq, e]
 refine ⟨v, ⟨h'.hp, h'.nx, minN h.lo h'.lo⟩, rfl, q _ ⟨H.nx, H.fr, fun x h1 h2 => ?_, minN_le_left _ _, fun s hs => ?_⟩ rfl rfl⟩
 ·show x ≤ minN h.lo h'.lo
  rw [minN_eq]
  have := H.lo x (by have := h2 b hbS; omega) h2
  omega
 ·rcases Nat.lt_or_ge s h'.lo with g | g
  ·exact .inr (H.chg s (hS s hs) g)
  ·exact .inl (Nat.le_trans (minN_le_right _ _) g)
end Go.Gev
namespace Go.Gev
section
variable {α : Type} [DecidableEq α]
structure KeyH (K : α → Value) (b : Bool) : Prop where
 ish : ∀ a, keyish b (K a) = true
 eq : ∀ a a', eqKey (K a) (K a') = some (decide (a = a'))
def mkE (K : α → Value) (l : List (α × Value × Nat)) : List MapEntry := l.map fun x => ⟨K x.1, x.2.1, x.2.2⟩
def look : List (α × Value × Nat) → α → Option Value
 | [], _ => none
 | x :: l, a => if a = x.1 then some x.2.1 else look l a
structure MapK (K : α → Value) (f : α → Option Value) (n : Nat) (es : List MapEntry) (cl : Nat) : Prop where
 ex : ∃ l, es = mkE K l ∧ ∀ a, look l a = f a
 cl : cl ≤ n
theorem MapK.nil (K : α → Value) : MapK K (fun _ => none) 0 [] 0 := ⟨⟨[], rfl, fun _ => rfl⟩, Nat.le_refl _⟩
variable {Q : Value → Hs → Prop} {h0 : Hs} {S : List Nat} {h : Hs} {m : List Th}
end
end Go.Gev
namespace Go.Gev
variable {Q : Value → Hs → Prop} {h0 : Hs} {S : List Nat} {h : Hs} {m : List Th}
theorem w_clrS {h' : Hs} {v : Value} (H : Sto h S h' m) (hS : ∀ s ∈ S, s < h.nx) (hv : flatV v = true) (q1 : ∀ h'', MutS S h h'' → h''.hp = h'.hp → h''.nx = h'.nx → Q v h'') (q2 : (∀ b, b < h.nx → h'.hp.get b = h.hp.get b) → Q v h) : WP (clrK h v h') Q := by
 rw [clrK_eq]
 cases e : Nat.blt h'.lo h.nx with
 | true =>
  rw [blt_eq] at e
  have e := of_decide_eq_true e
  refine ⟨v, ⟨h'.hp, h'.nx, minN h.lo h'.lo⟩, rfl, q1 _ ⟨H.nx, H.fr, fun x h1 h2 => ?_, minN_le_left _ _, fun s hs => ?_⟩ rfl rfl⟩
  ·show x ≤ minN h.lo h'.lo
   rw [minN_eq]
   cases hSS : S with
   | nil =>
    have := H.lo h.nx (Nat.le_refl _) (fun s hs => by rw [hSS] at hs; cases hs)
    omega
   | cons s S' =>
    have hm : s ∈ S := by rw [hSS]; exact List.mem_cons_self
    have a1 := h2 s hm
    have a2 := hS s hm
    have := H.lo x (by omega) h2
    omega
  ·show minN h.lo h'.lo ≤ s ∨ _
   rcases Nat.lt_or_ge s h'.lo with g | g
   ·exact .inr (H.chg s (hS s hs) g)
   ·exact .inl (Nat.le_trans (minN_le_right _ _) g)
 | false =>
  rw [blt_eq] at e
  have e := of_decide_eq_false e
  refine ⟨v, h, ?_, q2 fun b hb => H.chg b hb (by omega)⟩
  show clear2 h v h' (mvAll h'.hp h.nx ⟨h.hp, h.nx, []⟩ v) = _
  rw [mvAll_flatV hv]; rfl
theorem MutS.refl (S : List Nat) (h : Hs) : MutS S h h := ⟨Nat.le_refl _, fun _ _ _ => rfl, fun _ h1 _ => h1, Nat.le_refl _, fun _ _ => .inr rfl⟩
theorem Sto.rd0 {v : Value} {u : Nat} {L : List (List Value)} (H : Sto h0 S h m) (r : Rd h0 v u L) (hS : ∀ b, Th.id (.rsl v u L) = some b → b ∉ S) : Rd h v u L :=
 ⟨RdSl.congr r.1 fun b hb => H.fr b (r.2 b hb) (hS b hb), fun b hb => Nat.lt_of_lt_of_le (r.2 b hb) H.nx⟩
theorem Sto.addT {t : Th} (H : Sto h0 S h m) (he : t.ex = false) (ht : t.body h0) (hi : ∀ b, t.id = some b → b < h0.nx ∧ b ∉ S) : Sto h0 S h (t :: m) := by
 refine H.cons t (Th.congr ht fun b hb => H.fr b (hi b hb).1 (hi b hb).2) (fun b hb => ⟨Nat.lt_of_lt_of_le (hi b hb).1 H.nx, fun e => by rw [he] at e; cases e⟩) fun s hs hx b hb hb2 => ?_
 rcases hx with hx | hx
 ·rw [he] at hx; cases hx
 ·rcases (H.ids s hs b hb2).2 hx with g | g
  ·have := (hi b hb).1; omega
  ·exact (hi b hb).2 g
theorem Sto.addR {v : Value} {u : Nat} {L : List (List Value)} (H : Sto h0 S h m) (r : Rd h0 v u L) (hS : ∀ b, Th.id (.rsl v u L) = some b → b ∉ S) : Sto h0 S h (.rsl v u L :: m) := H.addT rfl r.1 fun b hb => ⟨r.2 b hb, hS b hb⟩
theorem MutS.rd {v : Value} {u : Nat} {L : List (List Value)} {h' : Hs} (M : MutS S h h') (r : Rd h v u L) (hS : ∀ b, Th.id (.rsl v u L) = some b → b ∉ S) : Rd h' v u L :=
 ⟨RdSl.congr r.1 fun b hb => M.2.1 b (r.2 b hb) (hS b hb), fun b hb => Nat.lt_of_lt_of_le (r.2 b hb) M.1⟩
theorem eqI2_nat (k : IntKind) (a b : Nat) : eqI2 k (.ofNat a) (.int k (.ofNat b)) = some (decide (a = b)) := by
 by_cases e : a = b
 ·subst e; cases k <;> simp [eqI2, kn, eqI]
 ·have q : Nat.beq a b = false := by
   cases q : Nat.beq a b with
   | false => rfl
   | true => exact absurd (Nat.eq_of_beq_eq_true q) e
  cases k <;> simp [eqI2, kn, eqI, e, q]
theorem eqc_cons {a b : Nat} {cs : List CK} {xs ys : List Value} : eqCells (.i :: cs) (.int .i64 (.ofNat a) :: xs) (.int .i64 (.ofNat b) :: ys) = if a = b then eqCells cs xs ys else some false := by
 show (match eqI2 .i64 (.ofNat a) (.int .i64 (.ofNat b)) with | some t => (match t with | true => eqCells cs xs ys | false => some false) | none => none) = _
 rw [eqI2_nat]
 by_cases e : a = b
 ·rw [decide_eq_true e, if_pos e]
 ·rw [decide_eq_false e, if_neg e]
theorem w_loadDR (k : Nat) {lm : List Bool} {hist : List (Option (Nat × Nat))} {b o e u : Nat} {rw_ fl : Bool} {L : List Value} {v : Value} {K : Value → An} (H : Sto h0 S h m) (hk : m[k]? = some (.rob b (.row e u rw_ fl L))) (hv : L[o]? = some v) (hq : b < h.nx → HidOk b hist) (w : WP (K v) Q) :
 WP (kLoad (.pointer (some ⟨b, o, none⟩)) (dHidS .light lm hist h) K) Q :=
 w_loadR k H hk (hideS_get _ _ _ _ (hq ((H.ids _ (List.mem_of_getElem? hk) b rfl).1))) hv w
theorem w_mkrowL {t u len : Nat} {lm : List Bool} {hist : List (Option (Nat × Nat))} {z : List Value} {parts : List (Nat × Nat × GX)} {en : En} {cs : List Value} {F : KV} (H : Sto h0 S h m) (e : fillL en parts (rep z len) = some cs) (kk : ∀ h', Sto h0 S h' (.blk h.nx (.row t u true (flatL cs) cs) :: m) → h'.nx = h.nx + 1 → WP (F (.slice (some ⟨h.nx, 0, none⟩) len len) h') Q) :
 WP (after (fun v w => dPut F v (dNext h w .light) (andB (dFit h w .light) (Nat.ble 0 w.lo))) (oMkrow t u len z parts en (dHidS .light lm hist h))) Q := by
 have : oMkrow t u len z parts en (dHidS .light lm hist h) = some (.slice (some ⟨h.nx, 0, none⟩) len len, Gev.newRow (dHidS .light lm hist h) t u cs) := by
  unfold oMkrow
  rw [e]; rfl
 rw [this]
 have hn : dNext h (Gev.newRow (dHidS .light lm hist h) t u cs) .light = dNext h (Gev.newRow ⟨.e, h.nx, h.nx⟩ t u cs) .make := by
  show (⟨backN _ (Nat.sub (Nat.succ h.nx) h.nx) h.nx h.hp, Nat.succ h.nx, h.lo⟩ : Hs) = ⟨backN _ (Nat.sub (Nat.succ h.nx) h.nx) h.nx h.hp, Nat.succ h.nx, h.lo⟩
  rw [show Nat.sub (Nat.succ h.nx) h.nx = 1 from by show h.nx + 1 - h.nx = 1; omega]
  congr 1
  show h.hp.set h.nx (Tr.get _ h.nx) = h.hp.set h.nx (Tr.get _ h.nx)
  congr 1
  show (Tr.set (hideS lm hist h.hp) h.nx _).get h.nx = (Tr.set .e h.nx _).get h.nx
  rw [Tr.get_set, if_pos rfl, Tr.get_set, if_pos rfl]
 show WP (dPut F _ (dNext h (Gev.newRow (dHidS .light lm hist h) t u cs) .light) (andB (dFit h (Gev.newRow ⟨.e, h.nx, h.nx⟩ t u cs) .make) (Nat.ble 0 h.nx))) Q
 rw [hn, (H.rowM (t := t) (u := u) (cs := cs)).1, ble_zero]
 exact kk _ H.rowM.2 rfl
theorem w_lightH {v : Value} {F : KV} {hp : Tr Blk} (w : WP (F v h) Q) : WP (dPut F v (dNext h ⟨hp, h.nx, h.nx⟩ .light) (andB (dFit h ⟨hp, h.nx, h.nx⟩ .light) (Nat.ble 0 h.nx))) Q := by
 have h1 : dFit h ⟨hp, h.nx, h.nx⟩ .light = true := by
  show andB (Nat.ble h.nx h.nx) (Nat.ble h.nx h.nx) = true
  rw [ble_self]; rfl
 rw [h1, ble_zero]
 have : dNext h ⟨hp, h.nx, h.nx⟩ .light = h := by
  show (⟨backN hp (Nat.sub h.nx h.nx) h.nx h.hp, h.nx, h.lo⟩ : Hs) = h
  rw [show Nat.sub h.nx h.nx = 0 from Nat.sub_self _]; rfl
 rw [this]; exact w
theorem Sto.wide (S : List Nat) (H : Sto h0 [] h m) : Sto h0 S h m :=
 ⟨H.nx, fun id hi _ => H.fr id hi (fun q => by cases q), fun k hk _ => H.lo k hk (fun s q => by cases q), H.ok, fun t ht b hb => ⟨(H.ids t ht b hb).1, fun e => .inl (((H.ids t ht b hb).2 e).elim id (fun q => by cases q))⟩, H.chg, H.dj⟩
theorem Sto.own {b : Nat} {o : Obj} (H : Sto h0 S h m) (hb : b < h0.nx) (hS : b ∈ S) (ho : Holds (h.hp.get b) o) (hm : ∀ s ∈ m, s.id ≠ some b) : Sto h0 S h (.blk b o :: m) :=
 H.cons (.blk b o) ho (fun b' e => by injection e with e; subst e; exact ⟨Nat.lt_of_lt_of_le hb H.nx, fun _ => .inr hS⟩) fun s hs _ b' e => by injection e with e; subst e; exact hm s hs
theorem MutS.wide {T : List Nat} {h' : Hs} (M : MutS S h h') (hS : ∀ s ∈ S, s ∈ T) (hT : ∀ s ∈ T, s < h.nx) : MutS T h h' := by
 refine ⟨M.1, fun id hi hn => M.2.1 id hi fun q => hn (hS id q), fun x h1 h2 => M.2.2.1 x h1 fun s hs => h2 s (hS s hs), M.2.2.2.1, fun s hs => ?_⟩
 by_cases q : s ∈ S
 ·exact M.2.2.2.2 s q
 ·exact .inr (M.2.1 s (hT s hs) q)
end Go.Gev
namespace Go.Gev
section
variable {h0 h : Hs} {S : List Nat} {m : List Th} {Q : Value → Hs → Prop}
theorem Rd.hid {v : Value} {u lo : Nat} {L : List (List Value)} {hp' : Tr Blk} (r : Rd h v u L) (he : ∀ b, Th.id (.rsl v u L) = some b → hp'.get b = h.hp.get b) : Rd ⟨hp', h.nx, lo⟩ v u L :=
 ⟨Th.congr (t := .rsl v u L) r.1 he, r.2⟩
end
end Go.Gev

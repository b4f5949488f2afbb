/- How the evaluator's values and memory stand to the model's. -/
import Derived.Test.YtndlcnfnoiabbaaGevTr
import Derived.Below
import Derived.Laws.AppendOwn
import Derived.Laws.Rows
namespace Go.Gev
open Go.RowKit
structure Host where
 blk : Nat
 off : Nat
 sz : Nat
 un : Nat
 rc : Option Loop
abbrev Ren := Nat → Option Host
inductive VR (ρ : Ren) : Value → Value → Prop
 | dunno (v : Value) : VR ρ (.chan none) v
 | bool (b : Bool) : VR ρ (.bool b) (.bool b)
 | int (k : IntKind) (n : Int) : VR ρ (.int k n) (.int k n)
 | string (s : ByteArray) : VR ρ (.string s) (.string s)
 | nilptr : VR ρ (.pointer none) (.pointer none)
 | ptr (id off : Nat) (H : Host) (h : ρ id = some H) : VR ρ (.pointer (some ⟨id, off, none⟩)) (.pointer (some ⟨H.blk, H.off + off, none⟩))
 | nilslice : VR ρ (.slice none 0 0) (.slice none 0 0)
 | nilmap : VR ρ (.map none) (.map none)
 | map (id : Nat) (H : Host) (h : ρ id = some H) : VR ρ (.map (some id)) (.map (some H.blk))
 | slice (id off n c c' : Nat) (H : Host) (h : ρ id = some H) (h1 : n ≤ c) (h2 : c ≤ c') (h3 : c' ≤ maxLen) (h4 : H.un = 0 ∨ H.off + off + c' * H.un ≤ H.sz) :
  VR ρ (.slice (some ⟨id, off, none⟩) n c) (.slice (some ⟨H.blk, H.off + off, none⟩) n c')
 | empty (b o k : Nat) (a' : Addr) (c' : Nat) (h3 : c' ≤ maxLen) : VR ρ (.slice (some ⟨b, o, some k⟩) 0 0) (.slice (some a') 0 c')
 | func (fn : Fn) (f f' c c' : Array Value) (hn : ∀ l, fn ≠ .yield l) (h1 : f.size = f'.size) (h2 : ∀ i (a : i < f.size) (b : i < f'.size), VR ρ f[i] f'[i])
  (h3 : c.size = c'.size) (h4 : ∀ i (a : i < c.size) (b : i < c'.size), VR ρ c[i] c'[i]) : VR ρ (.func fn f c) (.func fn f' c')
 | yield (id : Nat) (H : Host) (h : ρ id = some H) : VR ρ (.func (.yield id) #[] #[]) (.func (.yield H.blk) #[] #[])
 | nilFunc : VR ρ .nilFunc .nilFunc
 | nilIface : VR ρ .nilIface .nilIface
 | iface (t : TypeId) (v v' : Value) (h : VR ρ v v') : VR ρ (.iface t v) (.iface t v')
 | agg (xs ys : Array Value) (h : xs.size = ys.size) (h' : ∀ i (a : i < xs.size) (b : i < ys.size), VR ρ xs[i] ys[i]) : VR ρ (.agg xs) (.agg ys)
 | tuple (xs ys : Array Value) (h : xs.size = ys.size) (h' : ∀ i (a : i < xs.size) (b : i < ys.size), VR ρ xs[i] ys[i]) : VR ρ (.tuple xs) (.tuple ys)
def VL (ρ : Ren) (xs ys : List Value) : Prop := xs.length = ys.length ∧ ∀ (i : Nat) (x y : Value), xs[i]? = some x → ys[i]? = some y → VR ρ x y
theorem VL.nil {ρ : Ren} : VL ρ [] [] := ⟨rfl, fun i x y h => by simp at h⟩
theorem VL.cons {ρ : Ren} {x y : Value} {xs ys : List Value} (h : VR ρ x y) (t : VL ρ xs ys) : VL ρ (x :: xs) (y :: ys) :=
 ⟨by simp [t.1], fun i a b ha hb => by
  cases i with
  | zero => simp at ha hb; subst ha hb; exact h
  | succ i => exact t.2 i a b (by simpa using ha) (by simpa using hb)⟩
theorem VL.head {ρ : Ren} {x : Value} {xs ys : List Value} (h : VL ρ (x :: xs) ys) : ∃ y zs, ys = y :: zs ∧ VR ρ x y ∧ VL ρ xs zs := by
 cases ys with
 | nil => have := h.1; simp at this
 | cons y zs => exact ⟨y, zs, rfl, h.2 0 x y rfl rfl, by have := h.1; simpa using this, fun i a b ha hb => h.2 (i + 1) a b (by simpa using ha) (by simpa using hb)⟩
theorem VL.nil_left {ρ : Ren} {ys : List Value} (h : VL ρ [] ys) : ys = [] := List.eq_nil_of_length_eq_zero h.1.symm
theorem VL.append {ρ : Ren} {xs ys us vs : List Value} (h : VL ρ xs ys) (k : VL ρ us vs) : VL ρ (xs ++ us) (ys ++ vs) := by
 refine ⟨by simp [h.1, k.1], fun i a b ha hb => ?_⟩
 by_cases hi : i < xs.length
 ·rw [List.getElem?_append_left hi] at ha
  rw [List.getElem?_append_left (by rw [← h.1]; exact hi)] at hb
  exact h.2 i a b ha hb
 ·rw [List.getElem?_append_right (by omega)] at ha
  rw [List.getElem?_append_right (by rw [← h.1]; omega)] at hb
  rw [← h.1] at hb
  exact k.2 _ a b ha hb
theorem VL.take {ρ : Ren} {xs ys : List Value} (h : VL ρ xs ys) (n : Nat) : VL ρ (xs.take n) (ys.take n) :=
 ⟨by simp [h.1], fun i a b ha hb => by
  rw [List.getElem?_take] at ha hb
  split at ha
  ·rename_i hi; rw [if_pos hi] at hb; exact h.2 i a b ha hb
  ·cases ha⟩
theorem VL.drop {ρ : Ren} {xs ys : List Value} (h : VL ρ xs ys) (n : Nat) : VL ρ (xs.drop n) (ys.drop n) :=
 ⟨by simp [h.1], fun i a b ha hb => h.2 (n + i) a b (by simpa using ha) (by simpa using hb)⟩
theorem VL.arr {ρ : Ren} {xs ys : Array Value} (h : xs.size = ys.size) (h' : ∀ i (a : i < xs.size) (b : i < ys.size), VR ρ xs[i] ys[i]) : VL ρ xs.toList ys.toList :=
 ⟨by simpa using h, fun i x y hx hy => by
  obtain ⟨h1, rfl⟩ := List.getElem?_eq_some_iff.1 hx
  obtain ⟨h2, rfl⟩ := List.getElem?_eq_some_iff.1 hy
  exact h' i (by simpa using h1) (by simpa using h2)⟩
theorem VL.get {ρ : Ren} {xs ys : Array Value} (h : VL ρ xs.toList ys.toList) : xs.size = ys.size ∧ ∀ i (a : i < xs.size) (b : i < ys.size), VR ρ xs[i] ys[i] :=
 ⟨by simpa using h.1, fun i a b => h.2 i _ _ (by simp [a]) (by simp [b])⟩
theorem VR.agg_of {ρ : Ren} {xs ys : List Value} (h : VL ρ xs ys) : VR ρ (.agg xs.toArray) (.agg ys.toArray) :=
 have g := VL.get (xs := xs.toArray) (ys := ys.toArray) (by simpa using h); .agg _ _ g.1 g.2
theorem VR.tuple_of {ρ : Ren} {xs ys : List Value} (h : VL ρ xs ys) : VR ρ (.tuple xs.toArray) (.tuple ys.toArray) :=
 have g := VL.get (xs := xs.toArray) (ys := ys.toArray) (by simpa using h); .tuple _ _ g.1 g.2
def Ren.le (ρ ρ' : Ren) : Prop := ∀ id H, ρ id = some H → ρ' id = some H
theorem VR.mono {ρ ρ' : Ren} (h : ρ.le ρ') {v v' : Value} (hv : VR ρ v v') : VR ρ' v v' := by
 induction hv with
 | dunno v => exact .dunno v
 | bool b => exact .bool b
 | int k n => exact .int k n
 | string s => exact .string s
 | nilptr => exact .nilptr
 | ptr id off H e => exact .ptr id off H (h _ _ e)
 | nilslice => exact .nilslice
 | nilmap => exact .nilmap
 | map id H e => exact .map id H (h _ _ e)
 | slice id off n c c' H e h1 h2 h3 h4 => exact .slice id off n c c' H (h _ _ e) h1 h2 h3 h4
 | empty b o k a' c' h3 => exact .empty b o k a' c' h3
 | func fn f f' c c' hn h1 _ h3 _ i2 i4 => exact .func fn f f' c c' hn h1 i2 h3 i4
 | yield id H e => exact .yield id H (h _ _ e)
 | nilFunc => exact .nilFunc
 | nilIface => exact .nilIface
 | iface t v v' _ ih => exact .iface t v v' ih
 | agg xs ys h _ ih => exact .agg xs ys h ih
 | tuple xs ys h _ ih => exact .tuple xs ys h ih
theorem VL.mono {ρ ρ' : Ren} (h : ρ.le ρ') {xs ys : List Value} (hv : VL ρ xs ys) : VL ρ' xs ys := ⟨hv.1, fun i x y a b => (hv.2 i x y a b).mono h⟩
theorem Ren.le_refl (ρ : Ren) : ρ.le ρ := fun _ _ h => h
theorem Ren.le_trans {a b c : Ren} (h : a.le b) (k : b.le c) : a.le c := fun _ _ e => k _ _ (h _ _ e)
theorem VR.oneC {ρ : Ren} {v v' : Value} (h : VR ρ v v') (ho : oneC v = true) : v'.oneCell' = true := by
 cases h <;> first | rfl | (simp [Gev.oneC] at ho)
theorem VR.cells {ρ : Ren} {v v' : Value} (h : VR ρ v v') (hne : v ≠ .chan none) : VL ρ (cellsL v) v'.cells.toList := by
 cases h with
 | dunno v => exact absurd rfl hne
 | agg xs ys h h' => exact VL.arr h h'
 | ptr id off H e => exact .cons (.ptr id off H e) .nil
 | slice id off n c c' H e h1 h2 h3 h4 => exact .cons (.slice id off n c c' H e h1 h2 h3 h4) .nil
 | bool b => exact .cons (.bool b) .nil
 | int k n => exact .cons (.int k n) .nil
 | string s => exact .cons (.string s) .nil
 | nilptr => exact .cons .nilptr .nil
 | nilslice => exact .cons .nilslice .nil
 | nilmap => exact .cons .nilmap .nil
 | map id H e => exact .cons (.map id H e) .nil
 | empty b o k a' c' h3 => exact .cons (.empty b o k a' c' h3) .nil
 | func fn f f' c c' hn h1 h2 h3 h4 => exact .cons (.func fn f f' c c' hn h1 h2 h3 h4) .nil
 | yield id H e => exact .cons (.yield id H e) .nil
 | nilFunc => exact .cons .nilFunc .nil
 | nilIface => exact .cons .nilIface .nil
 | iface t v v' h => exact .cons (.iface t v v' h) .nil
 | tuple xs ys h h' => exact .cons (.tuple xs ys h h') .nil
inductive ME (ρ : Ren) : List MapEntry → List MapEntry → Prop
 | nil : ME ρ [] []
 | cons {e e' : MapEntry} {es es' : List MapEntry} (hk : e'.key = e.key) (hb : e'.born = e.born) (hv : VR ρ e.val e'.val) (t : ME ρ es es') : ME ρ (e :: es) (e' :: es')
theorem ME.mono {ρ ρ' : Ren} (h : ρ.le ρ') {es es' : List MapEntry} (m : ME ρ es es') : ME ρ' es es' := by
 induction m with
 | nil => exact .nil
 | cons hk hb hv _ ih => exact .cons hk hb (hv.mono h) ih
inductive MK (ρ : Ren) : List MapEntry → List MapEntry → Prop
 | nil : MK ρ [] []
 | cons {e e' : MapEntry} {es es' : List MapEntry} (hk : e'.key = e.key) (hv : VR ρ e.val e'.val) (t : MK ρ es es') : MK ρ (e :: es) (e' :: es')
theorem MK.mono {ρ ρ' : Ren} (h : ρ.le ρ') {es es' : List MapEntry} (m : MK ρ es es') : MK ρ' es es' := by
 induction m with
 | nil => exact .nil
 | cons hk hv _ ih => exact .cons hk (hv.mono h) ih
structure Nice (es : List MapEntry) (cl : Nat) : Prop where
 lt : ∀ e ∈ es, e.born < cl
 nb : (es.map (·.born)).Nodup
 nk : (es.map (·.key)).Nodup
 ks : (∀ e ∈ es, ∃ n, e.key = .int .i64 n) ∨ (∀ e ∈ es, ∃ s, e.key = .string s)
def MR (ρ : Ren) (es es' : List MapEntry) (cl : Nat) : Prop :=
 (ME ρ es es' ∧ ∀ e ∈ es, e.born < 1000000000000) ∨ ((∀ e ∈ es, 1000000000000 ≤ e.born) ∧ Nice es' cl ∧ ∃ es'', es''.Perm es' ∧ MK ρ es es'')
theorem MR.mono {ρ ρ' : Ren} (h : ρ.le ρ') {es es' : List MapEntry} {cl : Nat} (m : MR ρ es es' cl) : MR ρ' es es' cl :=
 m.imp (fun m => ⟨m.1.mono h, m.2⟩) fun ⟨a, b, es'', c, d⟩ => ⟨a, b, es'', c, d.mono h⟩
theorem isBig_false {es : List MapEntry} (h : isBig es = false) : es = [] ∨ ∃ e t, es = e :: t ∧ e.born < 1000000000000 := by
 cases es with
 | nil => exact .inl rfl
 | cons e t => exact .inr ⟨e, t, rfl, Nat.lt_of_not_le fun hle => by
  have h : Nat.ble 1000000000000 e.born = false := h
  rw [Nat.ble_eq_true_of_le hle] at h; cases h⟩
theorem isBig_true {es : List MapEntry} (h : isBig es = true) : ∃ e t, es = e :: t ∧ 1000000000000 ≤ e.born := by
 cases es with
 | nil => cases h
 | cons e t => exact ⟨e, t, rfl, Nat.le_of_ble_eq_true h⟩
theorem MR.me {ρ : Ren} {es es' : List MapEntry} {cl : Nat} (m : MR ρ es es' cl) (h : isBig es = false) : ME ρ es es' := by
 rcases m with m | ⟨a, b, es'', c, d⟩
 ·exact m.1
 ·rcases isBig_false h with rfl | ⟨e, t, rfl, hlt⟩
  ·cases d
   rw [List.nil_perm.1 c]
   exact .nil
  ·have := a e List.mem_cons_self
   omega
theorem MR.nil {ρ : Ren} {cl : Nat} : MR ρ [] [] cl := .inl ⟨.nil, fun _ h => by cases h⟩
def stOf : Nat → LoopState
 | 0 => .ready
 | 1 => .busy
 | _ => .done
def pdOf : Nat → Option Code
 | 0 => none
 | 1 => none
 | 2 => some .ret
 | n + 3 => some (.exit n)
def BR (B : Nat) (ρ : Ren) (w : World) (id : Nat) : Blk → Prop
 | .row c n e u rw fl => ∃ (H : Host) (arr : Array Value) (fz : Nat × Nat), ρ id = some H ∧ H.un = u ∧ w.heap[H.blk]? = some (.cells arr e fz) ∧ arr.size = H.sz ∧
  (∀ i v, c.get i = some v → ∃ v', arr[H.off + i]? = some v' ∧ VR ρ v v') ∧
  (rw = true → (fz = (0, 0) ∨ arr.size ≤ fz.1) ∧ H.off = 0 ∧ B ≤ H.blk ∧ n ≤ arr.size ∧ ∀ i, (c.get i).isSome = true ↔ i < n) ∧
  (fl = true → ∀ i v, c.get i = some v → flat1 v = true)
 | .mp es clock => ∃ (H : Host) (es' : Array MapEntry), ρ id = some H ∧ B ≤ H.blk ∧ w.heap[H.blk]? = some (.map es' clock) ∧ MR ρ es es'.toList clock
 | .it m since seen last => ∃ (H : Host), ρ id = some H ∧ (B ≤ H.blk ∧ H.off = 0) ∧ ((m = none ∧ w.heap[H.blk]? = some (.mapIter none since seen.toArray last)) ∨ ∃ k Hm, m = some k ∧ ρ k = some Hm ∧ w.heap[H.blk]? = some (.mapIter (some Hm.blk) since seen.toArray last))
 | .lp st => ∃ (H : Host) (r : Loop), ρ id = some H ∧ B ≤ H.blk ∧ H.rc = some r ∧ w.heap[H.blk]? = some (.loop { r with state := stOf st, pending := pdOf st })
def isRw : Blk → Bool
 | .row _ _ _ _ rw _ => rw
 | .mp _ _ => true
 | .it _ _ _ _ => true
 | .lp _ => true
structure HR (B : Nat) (ρ : Ren) (h : Hs) (w : World) : Prop where
 base : B ≤ w.heap.size
 dom : ∀ id, h.nx ≤ id → ρ id = none
 has : ∀ id b, h.hp.get id = some b → BR B ρ w id b
 inj : ∀ id id' b b' H H', h.hp.get id = some b → h.hp.get id' = some b' → id ≠ id' → isRw b = true → ρ id = some H → ρ id' = some H' → H.blk ≠ H'.blk
theorem HR.lt {B : Nat} {ρ : Ren} {h : Hs} {w : World} (R : HR B ρ h w) {id : Nat} {b : Blk} (hb : h.hp.get id = some b) : id < h.nx := by
 rcases Nat.lt_or_ge id h.nx with g | g
 ·exact g
 ·have := R.has id b hb
  cases b with
  | it m si se la =>
   obtain ⟨H, e, _⟩ := this
   rw [R.dom id g] at e
   cases e
  | lp st =>
   obtain ⟨H, r, e, _⟩ := this
   rw [R.dom id g] at e
   cases e
  | mp es cl =>
   obtain ⟨H, es', e, _⟩ := this
   rw [R.dom id g] at e
   cases e
  | row c n e u rw fl =>
   obtain ⟨H, arr, fz, e, _⟩ := this
   rw [R.dom id g] at e
   cases e
structure St (B : Nat) (ρ : Ren) (h : Hs) (w : World) (ρ' : Ren) (h' : Hs) (w' : World) : Prop where
 hr : HR B ρ' h' w'
 nx : h.nx ≤ h'.nx
 le : ρ.le ρ'
 old : ∀ id, id < h.nx → ρ' id = ρ id
 below : Below B w w'
 size : w.heap.size ≤ w'.heap.size
 lo : h'.lo ≤ h.lo
 keep : ∀ id b, h.hp.get id = some b → id < h'.lo → h'.hp.get id = some b
 gone : ∀ id b, h'.hp.get id = some b → id < h.nx → ∃ b0, h.hp.get id = some b0 ∧ isRw b0 = isRw b ∧ (id < h'.lo → b0 = b)
 newrw : ∀ id b, h'.hp.get id = some b → h.nx ≤ id → isRw b = true
 frame : ∀ k, k < w.heap.size → (∀ id b H, h.hp.get id = some b → isRw b = true → ρ id = some H → h'.lo ≤ id → H.blk ≠ k) → w'.heap[k]? = w.heap[k]?
 fresh : ∀ id H, h.nx ≤ id → ρ' id = some H → w.heap.size ≤ H.blk ∨ ∃ id0 b H0, h.hp.get id0 = some b ∧ isRw b = true ∧ ρ id0 = some H0 ∧ h'.lo ≤ id0 ∧ H0.blk = H.blk
theorem St.refl {B : Nat} {ρ : Ren} {h : Hs} {w : World} (R : HR B ρ h w) : St B ρ h w ρ h w :=
 ⟨R, Nat.le_refl _, Ren.le_refl _, fun _ _ => rfl, Below.refl _ _, Nat.le_refl _, Nat.le_refl _, fun _ _ h _ => h, fun _ b h _ => ⟨b, h, rfl, fun _ => rfl⟩, fun id b hb hid => by have := R.lt hb; omega, fun _ _ _ => rfl,
  fun id H hid e => by rw [R.dom id hid] at e; cases e⟩
end Go.Gev

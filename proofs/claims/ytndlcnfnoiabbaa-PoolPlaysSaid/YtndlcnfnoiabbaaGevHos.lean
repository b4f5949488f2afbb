/- A logic of residual programs: what holds behind each step; the memory is told as a list of what is known of its blocks. -/
import Derived.Test.YtndlcnfnoiabbaaGevSy3
namespace Go.Gev
def WP (e : An) (Q : Value → Hs → Prop) : Prop := ∃ v h, e = some (.val v h) ∧ Q v h
theorem WP.ret {v : Value} {h : Hs} {Q : Value → Hs → Prop} (q : Q v h) : WP (some (.val v h)) Q := ⟨v, h, rfl, q⟩
theorem WP.mono {e : An} {Q Q' : Value → Hs → Prop} (w : WP e Q) (k : ∀ v h, Q v h → Q' v h) : WP e Q' := by
 obtain ⟨v, h, e, q⟩ := w
 exact ⟨v, h, e, k v h q⟩
theorem WP.eq {e e' : An} {Q : Value → Hs → Prop} (he : e = e') (w : WP e' Q) : WP e Q := by rw [he]; exact w
inductive Obj where
 /-- cells: the element's type, cells of an element (0: no append), may it be written, is it known that it has no address -/
 | row (e u : Nat) (rw fl : Bool) (L : List Value)
 | mp (es : List MapEntry) (cl : Nat)
def Holds (B : Option Blk) : Obj → Prop
 | .row e u rw fl L => ∃ c f, B = some (.row c L.length e u rw f) ∧ (fl = true → f = true) ∧ ∀ i, c.get i = L[i]?
 | .mp es cl => B = some (.mp es cl)
def OwnSl (h : Hs) (v : Value) (e u : Nat) (fl : Bool) (n : Nat) (L : List Value) : Prop :=
 L.length = n * u ∧ ((v = .slice none 0 0 ∧ n = 0) ∨ ∃ id c cs sz f, v = .slice (some ⟨id, 0, none⟩) n c ∧ n ≤ c ∧ h.hp.get id = some (.row cs sz e u true f) ∧ (fl = true → f = true) ∧ L.length ≤ sz ∧ ∀ i, i < L.length → cs.get i = L[i]?)
def RdSl (h : Hs) (v : Value) (u : Nat) (L : List (List Value)) : Prop :=
 (∀ l ∈ L, l.length = u) ∧ ((∃ a c, v = .slice a 0 c ∧ L = []) ∨ ∃ id o c cs sz e u' rw f, v = .slice (some ⟨id, o, none⟩) L.length c ∧ L.length ≤ c ∧ h.hp.get id = some (.row cs sz e u' rw f) ∧ (u' = 0 ∨ u' = u) ∧
  ∀ i j l, L[i]? = some l → j < u → cs.get (o + i * u + j) = l[j]?)
def RdAt (h : Hs) (b o : Nat) (l : List Value) : Prop := ∃ cs sz e u rw f, h.hp.get b = some (.row cs sz e u rw f) ∧ ∀ j, j < l.length → cs.get (o + j) = l[j]?
inductive Th where
 | blk (id : Nat) (o : Obj)
 | osl (v : Value) (e u : Nat) (fl : Bool) (n : Nat) (L : List Value)
 | rsl (v : Value) (u : Nat) (L : List (List Value))
 | rob (id : Nat) (o : Obj)
 | rel (b o : Nat) (l : List Value)
def vId : Value → Option Nat
 | .slice (some a) _ _ => match a.spot with
  | none => some a.block
  | some _ => none
 | _ => none
def Th.id : Th → Option Nat
 | .blk i _ => some i
 | .rob i _ => some i
 | .osl v _ _ _ _ _ => vId v
 | .rsl v _ L => match L with
  | [] => none
  | _ :: _ => vId v
 | .rel b _ _ => some b
def Th.ex : Th → Bool
 | .blk _ _ => true
 | .osl _ _ _ _ _ _ => true
 | _ => false
def Th.body (h : Hs) : Th → Prop
 | .blk i o => Holds (h.hp.get i) o
 | .rob i o => Holds (h.hp.get i) o
 | .osl v e u fl n L => OwnSl h v e u fl n L
 | .rsl v u L => RdSl h v u L
 | .rel b o l => RdAt h b o l
theorem OwnSl.congr {h h' : Hs} {v : Value} {e u : Nat} {fl : Bool} {n : Nat} {L : List Value} (o : OwnSl h v e u fl n L) (hg : ∀ b, vId v = some b → h'.hp.get b = h.hp.get b) : OwnSl h' v e u fl n L := by
 obtain ⟨hl, o⟩ := o
 refine ⟨hl, ?_⟩
 rcases o with ⟨a, b⟩ | ⟨id, c, cs, sz, f, rfl, a0, a, b, d, g⟩
 ·exact .inl ⟨a, b⟩
 ·exact .inr ⟨id, c, cs, sz, f, rfl, a0, by rw [hg id rfl]; exact a, b, d, g⟩
theorem RdSl.congr {h h' : Hs} {v : Value} {u : Nat} {L : List (List Value)} (o : RdSl h v u L) (hg : ∀ b, Th.id (.rsl v u L) = some b → h'.hp.get b = h.hp.get b) : RdSl h' v u L := by
 obtain ⟨hl, o⟩ := o
 refine ⟨hl, ?_⟩
 rcases o with o | ⟨id, o, c, cs, sz, e, u', rw, f, rfl, a0, a, b, d⟩
 ·exact .inl o
 ·cases L with
  | nil => exact .inl ⟨_, _, rfl, rfl⟩
  | cons x L => exact .inr ⟨id, o, c, cs, sz, e, u', rw, f, rfl, a0, by rw [hg id rfl]; exact a, b, d⟩
theorem Th.congr {h h' : Hs} {t : Th} (o : t.body h) (hg : ∀ b, t.id = some b → h'.hp.get b = h.hp.get b) : t.body h' := by
 cases t with
 | blk i x => show Holds _ _; rw [hg i rfl]; exact o
 | rob i x => show Holds _ _; rw [hg i rfl]; exact o
 | osl v e u fl n L => exact OwnSl.congr o hg
 | rsl v u L => exact RdSl.congr o hg
 | rel b x l =>
  obtain ⟨cs, sz, e, u, rw, f, a, d⟩ := o
  exact ⟨cs, sz, e, u, rw, f, by rw [hg b rfl]; exact a, d⟩
structure Sto (h0 : Hs) (S : List Nat) (h : Hs) (m : List Th) : Prop where
 nx : h0.nx ≤ h.nx
 fr : ∀ id, id < h0.nx → id ∉ S → h.hp.get id = h0.hp.get id
 lo : ∀ k, k ≤ h0.nx → (∀ s ∈ S, k ≤ s) → k ≤ h.lo
 ok : ∀ t ∈ m, t.body h
 ids : ∀ t ∈ m, ∀ b, t.id = some b → b < h.nx ∧ (t.ex = true → h0.nx ≤ b ∨ b ∈ S)
 /-- what was there and lies below the least block that was turned is as it was -/
 chg : ∀ id, id < h0.nx → id < h.lo → h.hp.get id = h0.hp.get id
 dj : ∀ (i j : Nat) (s t : Th), m[i]? = some s → m[j]? = some t → i ≠ j → s.ex = true → ∀ b, s.id = some b → t.id ≠ some b
theorem Sto.enter (h : Hs) : Sto h [] ⟨h.hp, h.nx, h.nx⟩ [] := by
 refine ⟨Nat.le_refl _, fun _ _ _ => rfl, fun k hk _ => hk, ?_, ?_, fun _ _ _ => rfl, ?_⟩
 ·intro t ht; cases ht
 ·intro t ht; cases ht
 ·intro i j s t hi; simp at hi
theorem Sto.enterR (h : Hs) (m : List Th) (hm : ∀ t ∈ m, t.ex = false ∧ t.body h ∧ ∀ b, t.id = some b → b < h.nx) : Sto h [] ⟨h.hp, h.nx, h.nx⟩ m := by
 refine ⟨Nat.le_refl _, fun _ _ _ => rfl, fun k hk _ => hk, fun t ht => ?_, fun t ht b hb => ⟨(hm t ht).2.2 b hb, fun e => ?_⟩, fun _ _ _ => rfl, fun i j s t hi _ _ he => ?_⟩
 ·exact Th.congr (hm t ht).2.1 fun _ _ => rfl
 ·rw [(hm t ht).1] at e; cases e
 ·rw [(hm s (List.mem_of_getElem? hi)).1] at he; cases he
theorem Sto.pick {h0 : Hs} {S : List Nat} {h : Hs} {m m' : List Th} (H : Sto h0 S h m) (ix : List Nat) (hn : ix.Nodup) (hm : ix.map (fun i => m[i]?) = m'.map some) : Sto h0 S h m' := by
 have at_ : ∀ (j : Nat) (t : Th), m'[j]? = some t → ∃ i, ix[j]? = some i ∧ m[i]? = some t := fun j t hj => by
  have h1 : (m'.map some)[j]? = some (some t) := by rw [List.getElem?_map, hj]; rfl
  rw [← hm, List.getElem?_map] at h1
  cases hi : ix[j]? with
  | none => rw [hi] at h1; cases h1
  | some i => rw [hi] at h1; exact ⟨i, rfl, by injection h1⟩
 refine ⟨H.nx, H.fr, H.lo, fun t ht => ?_, fun t ht => ?_, H.chg, fun i j s t hi hj hij he b hb => ?_⟩
 ·obtain ⟨j, hj⟩ := List.getElem?_of_mem ht
  obtain ⟨i, _, hi⟩ := at_ j t hj
  exact H.ok t (List.mem_of_getElem? hi)
 ·obtain ⟨j, hj⟩ := List.getElem?_of_mem ht
  obtain ⟨i, _, hi⟩ := at_ j t hj
  exact H.ids t (List.mem_of_getElem? hi)
 ·obtain ⟨i', hi1, hi2⟩ := at_ i s hi
  obtain ⟨j', hj1, hj2⟩ := at_ j t hj
  refine H.dj i' j' s t hi2 hj2 (fun e => hij ?_) he b hb
  subst e
  have li := (List.getElem?_eq_some_iff.1 hi1).1
  have lj := (List.getElem?_eq_some_iff.1 hj1).1
  exact (List.getElem?_inj li hn).1 (hi1.trans hj1.symm)
theorem Sto.tail {h0 : Hs} {S : List Nat} {h : Hs} {t : Th} {m : List Th} (H : Sto h0 S h (t :: m)) : Sto h0 S h m :=
 ⟨H.nx, H.fr, H.lo, fun s hs => H.ok s (List.mem_cons_of_mem _ hs), fun s hs => H.ids s (List.mem_cons_of_mem _ hs), H.chg, fun i j s u hi hj hij => H.dj (i + 1) (j + 1) s u hi hj (by omega)⟩
theorem Sto.ext {h0 : Hs} {S : List Nat} {h h' : Hs} {m : List Th} (H : Sto h0 S h m) (e : Ext h h') (hlo : ∀ x, x ≤ h.lo → x ≤ h.nx → x ≤ h'.lo) (hle : h'.lo ≤ h.lo) : Sto h0 S h' m := by
 refine ⟨Nat.le_trans H.nx e.1, fun id hid hs => (e.2 id (Nat.lt_of_lt_of_le hid H.nx)).trans (H.fr id hid hs), fun k hk hs => hlo k (H.lo k hk hs) (Nat.le_trans hk H.nx), fun t ht => ?_, fun t ht b hb => ?_, fun id hid hl => (e.2 id (Nat.lt_of_lt_of_le hid H.nx)).trans (H.chg id hid (Nat.lt_of_lt_of_le hl hle)), H.dj⟩
 ·exact Th.congr (H.ok t ht) fun b hb => e.2 b (H.ids t ht b hb).1
 ·exact ⟨Nat.lt_of_lt_of_le (H.ids t ht b hb).1 e.1, (H.ids t ht b hb).2⟩
theorem Sto.cons {h0 : Hs} {S : List Nat} {h : Hs} {m : List Th} (H : Sto h0 S h m) (t : Th) (hb : t.body h) (hid : ∀ b, t.id = some b → b < h.nx ∧ (t.ex = true → h0.nx ≤ b ∨ b ∈ S)) (hd : ∀ s ∈ m, (t.ex = true ∨ s.ex = true) → ∀ b, t.id = some b → s.id ≠ some b) : Sto h0 S h (t :: m) := by
 refine ⟨H.nx, H.fr, H.lo, fun s hs => ?_, fun s hs => ?_, H.chg, fun i j s u hi hj hij he b hb => ?_⟩
 ·rcases List.mem_cons.1 hs with rfl | hs
  ·exact hb
  ·exact H.ok s hs
 ·rcases List.mem_cons.1 hs with rfl | hs
  ·exact hid
  ·exact H.ids s hs
 ·cases i with
  | zero =>
   cases j with
   | zero => exact absurd rfl hij
   | succ j =>
    have e : t = s := by injection hi
    subst e
    exact hd u (List.mem_of_getElem? hj) (.inl he) b hb
  | succ i =>
   cases j with
   | zero =>
    have e : t = u := by injection hj
    subst e
    exact fun hu => hd s (List.mem_of_getElem? hi) (.inr he) b hu hb
   | succ j => exact H.dj i j s u hi hj (by omega) he b hb
theorem Sto.new {h0 : Hs} {S : List Nat} {h h' : Hs} {m : List Th} (H : Sto h0 S h m) (e : Ext h h') (hlo : ∀ x, x ≤ h.lo → x ≤ h.nx → x ≤ h'.lo) (hle : h'.lo ≤ h.lo) (t : Th) (hb : t.body h') (hid : ∀ b, t.id = some b → h.nx ≤ b ∧ b < h'.nx) : Sto h0 S h' (t :: m) :=
 (H.ext e hlo hle).cons t hb (fun b hb => ⟨(hid b hb).2, fun _ => .inl (Nat.le_trans H.nx (hid b hb).1)⟩) fun s hs _ b hb hs' => by
  have h1 := (hid b hb).1
  have h2 := (H.ids s hs b hs').1
  omega
theorem Sto.upd {h0 : Hs} {S : List Nat} {h h' : Hs} {m : List Th} {k : Nat} {t t' : Th} (H : Sto h0 S h m) (hk : m[k]? = some t) (ht : t.ex = true) (hnx : h.nx ≤ h'.nx) (hg : ∀ b, b < h.nx → t.id ≠ some b → h'.hp.get b = h.hp.get b)
 (hlo : ∀ x, x ≤ h.lo → x ≤ h.nx → (∀ b, t.id = some b → x ≤ b) → x ≤ h'.lo) (hle : h'.lo ≤ h.lo) (hch : ∀ b, t.id = some b → h'.lo ≤ b ∨ h'.hp.get b = h.hp.get b) (hbd : t'.body h') (hid : ∀ b, t'.id = some b → b < h'.nx ∧ (t.id = some b ∨ h.nx ≤ b)) : Sto h0 S h' (m.set k t') := by
 have old : ∀ (j : Nat) (s : Th), m[j]? = some s → j ≠ k → s.body h' := fun j s hj hjk => Th.congr (H.ok s (List.mem_of_getElem? hj)) fun b hb => hg b (H.ids s (List.mem_of_getElem? hj) b hb).1 fun e => H.dj k j t s hk hj (fun e => hjk e.symm) ht b e hb
 have lk : k < m.length := (List.getElem?_eq_some_iff.1 hk).1
 have at_ : ∀ (j : Nat) (s : Th), (m.set k t')[j]? = some s → (j = k ∧ s = t') ∨ (j ≠ k ∧ m[j]? = some s) := fun j s hj => by
  rw [List.getElem?_set] at hj
  by_cases e : k = j
  ·rw [if_pos e, if_pos lk] at hj; injection hj with hj; exact .inl ⟨e.symm, hj.symm⟩
  ·rw [if_neg e] at hj; exact .inr ⟨fun q => e q.symm, hj⟩
 have tid : ∀ b, t.id = some b → b < h.nx ∧ (h0.nx ≤ b ∨ b ∈ S) := fun b hb => ⟨(H.ids t (List.mem_of_getElem? hk) b hb).1, (H.ids t (List.mem_of_getElem? hk) b hb).2 ht⟩
 have new : ∀ (j : Nat) (s : Th), m[j]? = some s → j ≠ k → ∀ b, t'.id = some b → s.id ≠ some b := fun j s hj hjk b hb e => by
  rcases (hid b hb).2 with h1 | h1
  ·exact H.dj k j t s hk hj (fun e => hjk e.symm) ht b h1 e
  ·have := (H.ids s (List.mem_of_getElem? hj) b e).1; omega
 refine ⟨Nat.le_trans H.nx hnx, fun id hd hs => ?_, fun x hx hs => ?_, fun s hs => ?_, fun s hs b hb => ?_, fun id hd hl => ?_, fun i j s u hi hj hij he b hb => ?_⟩
 ·refine (hg id (Nat.lt_of_lt_of_le hd H.nx) fun e => ?_).trans (H.fr id hd hs)
  rcases (tid id e).2 with h1 | h1
  ·omega
  ·exact hs h1
 ·refine hlo x (H.lo x hx hs) (Nat.le_trans hx H.nx) fun b hb => ?_
  rcases (tid b hb).2 with h1 | h1
  ·omega
  ·exact hs b h1
 ·obtain ⟨j, hj⟩ := List.getElem?_of_mem hs
  rcases at_ j s hj with ⟨_, rfl⟩ | ⟨h1, h2⟩
  ·exact hbd
  ·exact old j s h2 h1
 ·obtain ⟨j, hj⟩ := List.getElem?_of_mem hs
  rcases at_ j s hj with ⟨_, rfl⟩ | ⟨h1, h2⟩
  ·refine ⟨(hid b hb).1, fun _ => ?_⟩
   rcases (hid b hb).2 with h3 | h3
   ·exact (tid b h3).2
   ·exact .inl (Nat.le_trans H.nx h3)
  ·exact ⟨Nat.lt_of_lt_of_le (H.ids s (List.mem_of_getElem? h2) b hb).1 hnx, (H.ids s (List.mem_of_getElem? h2) b hb).2⟩
 ·have q : h'.hp.get id = h.hp.get id := by
   by_cases e : t.id = some id
   ·rcases hch id e with h1 | h1
    ·omega
    ·exact h1
   ·exact hg id (Nat.lt_of_lt_of_le hd H.nx) e
  exact q.trans (H.chg id hd (Nat.lt_of_lt_of_le hl hle))
 ·rcases at_ i s hi with ⟨h1, rfl⟩ | ⟨h1, h2⟩
  ·rcases at_ j u hj with ⟨h3, rfl⟩ | ⟨h3, h4⟩
   ·omega
   ·exact new j u h4 h3 b hb
  ·rcases at_ j u hj with ⟨h3, rfl⟩ | ⟨h3, h4⟩
   ·exact fun e => new i s h2 h1 b e hb
   ·exact H.dj i j s u h2 h4 hij he b hb
end Go.Gev
namespace Go.Gev
variable {Q : Value → Hs → Prop}
theorem w_jn {T : Type} {k : T} {F : T → An} (w : WP (F k) Q) : WP (jn k F) Q := w
theorem w_cndT {a b : An} (w : WP a Q) : WP (cnd (.bool true) a b) Q := w
theorem w_cndF {a b : An} (w : WP b Q) : WP (cnd (.bool false) a b) Q := w
theorem w_gTt {h : Hs} {f : KV → An} {K : KV} (w : WP (f K) Q) : WP (gdT (.bool true) h f K) Q := w
theorem w_gTf {h : Hs} {f : KV → An} {K : KV} (w : WP (K undef' h) Q) : WP (gdT (.bool false) h f K) Q := w
theorem w_gFt {h : Hs} {f : KV → An} {K : KV} (w : WP (K undef' h) Q) : WP (gdF (.bool true) h f K) Q := w
theorem w_gFf {h : Hs} {f : KV → An} {K : KV} (w : WP (f K) Q) : WP (gdF (.bool false) h f K) Q := w
theorem w_after {K : KV} {v : Value} {h : Hs} (w : WP (K v h) Q) : WP (after K (some (v, h))) Q := w
theorem w_pickT {K : KV} {x y : Value} {en : En} {h : Hs} (w : WP (K x h) Q) : WP (after K (pickB (.c x) (.c y) en h (.bool true))) Q := w
theorem w_pickF {K : KV} {x y : Value} {en : En} {h : Hs} (w : WP (K y h) Q) : WP (after K (pickB (.c x) (.c y) en h (.bool false))) Q := w
theorem w_notT {K : Value → An} (w : WP (K (.bool false)) Q) : WP (kNot (.bool true) K) Q := w
theorem w_notF {K : Value → An} (w : WP (K (.bool true)) Q) : WP (kNot (.bool false) K) Q := w
theorem w_ob {K : Value → An} {o : Option Value} {v : Value} (e : o = some v) (w : WP (K v) Q) : WP (obK K o) Q := by rw [e]; exact w
theorem w_ret1 {K : KV} {h : Hs} {o : Option Value} {v : Value} (e : o = some v) (w : WP (K v h) Q) : WP (after K (ret1 h o)) Q := by rw [e]; exact w
theorem w_rs {K : KV} {r : Rs} {v : Value} {h : Hs} (e : r = some (v, h)) (w : WP (K v h) Q) : WP (after K r) Q := by rw [e]; exact w
theorem w_extr {vs : Array Value} {i : Nat} {K : Value → An} {v : Value} (e : nthV vs.toList i = some v) (w : WP (K v) Q) : WP (kExtr (.tuple vs) i K) Q := by
 show WP (obK K (nthV vs.toList i)) Q
 rw [e]; exact w
theorem w_nil {a : Addr} {K : Value → An} (w : WP (K (.pointer (some a))) Q) : WP (kNil (.pointer (some a)) K) Q := w
theorem w_unC {v : Value} {vs : List Value} {F : Value → List Value → An} (w : WP (F v vs) Q) : WP (unC (v :: vs) F) Q := w
theorem w_enK {h : Hs} {F : Hs → An} (w : WP (F ⟨h.hp, h.nx, h.nx⟩) Q) : WP (enK h F) Q := by rw [enK_eq]; exact w
theorem w_fieldA {k b o : Nat} {K : Value → An} (w : WP (K (.pointer (some ⟨b, o + k, none⟩))) Q) : WP (kFieldA k (.pointer (some ⟨b, o, none⟩)) K) Q := by rw [kFieldA_ok]; exact w
theorem w_lenV {a : Option Addr} {n c : Nat} {K : Value → An} (w : WP (K (.int .i64 (.ofNat n))) Q) : WP (kLenV (.slice a n c) K) Q := by rw [kLenV_ok]; exact w
theorem w_idx {i n u b o c : Nat} {K : Value → An} (hi : i < n) (w : WP (K (.pointer (some ⟨b, o + i * u, none⟩))) Q) : WP (kIdxA u (.slice (some ⟨b, o, none⟩) n c) (.int .i64 (.ofNat i)) K) Q := by rw [kIdxA_ok hi]; exact w
theorem w_call {R : RnK} {f : FuncId} {args : List Value} {h : Hs} {K : KV} {P : Value → Hs → Prop} (c : WP (R f args h) P) (k : ∀ v h', P v h' → WP (K v h') Q) : WP (kCall R f args h K) Q := by
 obtain ⟨v, h', e, p⟩ := c
 rw [kCall_ok e]
 exact k v h' p
theorem w_callE {R : RnK} {f : FuncId} {args : List Value} {h h' : Hs} {v : Value} {K : KV} (c : R f args h = some (.val v h')) (w : WP (K v h') Q) : WP (kCall R f args h K) Q := by
 rw [kCall_ok c]
 exact w
theorem lp_ind {T : Type} {b : T} {G : T → T} (Good : Nat → T → Prop) (step : ∀ n t, (∀ m, m < n → Good m t) → Good n (G t)) : ∀ N n, n < N → Good n (lpT b N G) := by
 intro N
 induction N with
 | zero => intro n h; omega
 | succ N ih =>
  intro n hn
  exact step n _ fun m hm => ih m (by omega)
theorem w_lss_II {a b : Int} {K : Value → An} (ht : a < b → WP (K (.bool true)) Q) (hf : ¬ a < b → WP (K (.bool false)) Q) : WP (kI64 .lss (.int .i64 a) (.int .i64 b) K) Q := by
 rw [kI64_lss]
 by_cases c : a < b
 ·rw [decide_eq_true c]; exact ht c
 ·rw [decide_eq_false c]; exact hf c
theorem w_lss_NN {a b : Nat} {K : Value → An} (ht : a < b → WP (K (.bool true)) Q) (hf : ¬ a < b → WP (K (.bool false)) Q) : WP (kI64 .lss (.int .i64 (.ofNat a)) (.int .i64 (.ofNat b)) K) Q :=
 w_lss_II (fun c => ht (by simp only [Int.ofNat_eq_natCast] at c; omega)) (fun c => hf (by simp only [Int.ofNat_eq_natCast] at c; omega))
theorem w_lss_IN {a : Int} {b : Nat} {K : Value → An} (ht : a < (b : Int) → WP (K (.bool true)) Q) (hf : ¬ a < (b : Int) → WP (K (.bool false)) Q) : WP (kI64 .lss (.int .i64 a) (.int .i64 (.ofNat b)) K) Q :=
 w_lss_II ht hf
theorem w_lss_NI {a : Nat} {b : Int} {K : Value → An} (ht : (a : Int) < b → WP (K (.bool true)) Q) (hf : ¬ (a : Int) < b → WP (K (.bool false)) Q) : WP (kI64 .lss (.int .i64 (.ofNat a)) (.int .i64 b) K) Q :=
 w_lss_II ht hf
theorem w_leq_II {a b : Int} {K : Value → An} (ht : a ≤ b → WP (K (.bool true)) Q) (hf : ¬ a ≤ b → WP (K (.bool false)) Q) : WP (kI64 .leq (.int .i64 a) (.int .i64 b) K) Q := by
 rw [kI64_leq]
 by_cases c : a ≤ b
 ·rw [decide_eq_true c]; exact ht c
 ·rw [decide_eq_false c]; exact hf c
theorem w_leq_NN {a b : Nat} {K : Value → An} (ht : a ≤ b → WP (K (.bool true)) Q) (hf : ¬ a ≤ b → WP (K (.bool false)) Q) : WP (kI64 .leq (.int .i64 (.ofNat a)) (.int .i64 (.ofNat b)) K) Q :=
 w_leq_II (fun c => ht (by simp only [Int.ofNat_eq_natCast] at c; omega)) (fun c => hf (by simp only [Int.ofNat_eq_natCast] at c; omega))
theorem w_leq_IN {a : Int} {b : Nat} {K : Value → An} (ht : a ≤ (b : Int) → WP (K (.bool true)) Q) (hf : ¬ a ≤ (b : Int) → WP (K (.bool false)) Q) : WP (kI64 .leq (.int .i64 a) (.int .i64 (.ofNat b)) K) Q :=
 w_leq_II ht hf
theorem w_gtr_II {a b : Int} {K : Value → An} (ht : b < a → WP (K (.bool true)) Q) (hf : ¬ b < a → WP (K (.bool false)) Q) : WP (kI64 .gtr (.int .i64 a) (.int .i64 b) K) Q := by
 rw [kI64_gtr]
 by_cases c : b < a
 ·rw [decide_eq_true c]; exact ht c
 ·rw [decide_eq_false c]; exact hf c
theorem w_gtr_NN {a b : Nat} {K : Value → An} (ht : b < a → WP (K (.bool true)) Q) (hf : ¬ b < a → WP (K (.bool false)) Q) : WP (kI64 .gtr (.int .i64 (.ofNat a)) (.int .i64 (.ofNat b)) K) Q :=
 w_gtr_II (fun c => ht (by simp only [Int.ofNat_eq_natCast] at c; omega)) (fun c => hf (by simp only [Int.ofNat_eq_natCast] at c; omega))
theorem w_geq_II {a b : Int} {K : Value → An} (ht : b ≤ a → WP (K (.bool true)) Q) (hf : ¬ b ≤ a → WP (K (.bool false)) Q) : WP (kI64 .geq (.int .i64 a) (.int .i64 b) K) Q := by
 rw [kI64_geq]
 by_cases c : b ≤ a
 ·rw [decide_eq_true c]; exact ht c
 ·rw [decide_eq_false c]; exact hf c
theorem w_geq_NN {a b : Nat} {K : Value → An} (ht : b ≤ a → WP (K (.bool true)) Q) (hf : ¬ b ≤ a → WP (K (.bool false)) Q) : WP (kI64 .geq (.int .i64 (.ofNat a)) (.int .i64 (.ofNat b)) K) Q :=
 w_geq_II (fun c => ht (by simp only [Int.ofNat_eq_natCast] at c; omega)) (fun c => hf (by simp only [Int.ofNat_eq_natCast] at c; omega))
theorem w_geq_IN {a : Int} {b : Nat} {K : Value → An} (ht : (b : Int) ≤ a → WP (K (.bool true)) Q) (hf : ¬ (b : Int) ≤ a → WP (K (.bool false)) Q) : WP (kI64 .geq (.int .i64 a) (.int .i64 (.ofNat b)) K) Q :=
 w_geq_II ht hf
theorem w_eql_II {a b : Int} {K : Value → An} (ht : a = b → WP (K (.bool true)) Q) (hf : ¬ a = b → WP (K (.bool false)) Q) : WP (kI64 .eql (.int .i64 a) (.int .i64 b) K) Q := by
 rw [kI64_eql]
 by_cases c : a = b
 ·have e : (a == b) = true := by simp [c]
  rw [e]; exact ht c
 ·have e : (a == b) = false := by simp [c]
  rw [e]; exact hf c
theorem w_eql_NN {a b : Nat} {K : Value → An} (ht : a = b → WP (K (.bool true)) Q) (hf : ¬ a = b → WP (K (.bool false)) Q) : WP (kI64 .eql (.int .i64 (.ofNat a)) (.int .i64 (.ofNat b)) K) Q :=
 w_eql_II (fun c => ht (by simp only [Int.ofNat_eq_natCast] at c; omega)) (fun c => hf (by simp only [Int.ofNat_eq_natCast] at c; omega))
theorem w_eql_IN {a : Int} {b : Nat} {K : Value → An} (ht : a = (b : Int) → WP (K (.bool true)) Q) (hf : ¬ a = (b : Int) → WP (K (.bool false)) Q) : WP (kI64 .eql (.int .i64 a) (.int .i64 (.ofNat b)) K) Q :=
 w_eql_II ht hf
theorem w_neq_II {a b : Int} {K : Value → An} (ht : a = b → WP (K (.bool false)) Q) (hf : ¬ a = b → WP (K (.bool true)) Q) : WP (kI64 .neq (.int .i64 a) (.int .i64 b) K) Q := by
 rw [kI64_neq]
 by_cases c : a = b
 ·have e : (a != b) = false := by simp [c]
  rw [e]; exact ht c
 ·have e : (a != b) = true := by simp [c]
  rw [e]; exact hf c
theorem w_neq_NN {a b : Nat} {K : Value → An} (ht : a = b → WP (K (.bool false)) Q) (hf : ¬ a = b → WP (K (.bool true)) Q) : WP (kI64 .neq (.int .i64 (.ofNat a)) (.int .i64 (.ofNat b)) K) Q :=
 w_neq_II (fun c => ht (by simp only [Int.ofNat_eq_natCast] at c; omega)) (fun c => hf (by simp only [Int.ofNat_eq_natCast] at c; omega))
theorem w_add_II {a b : Int} {K : Value → An} (h1 : -9223372036854775808 ≤ a + b) (h2 : a + b ≤ 9223372036854775807) (w : WP (K (.int .i64 (a + b))) Q) : WP (kI64 .add (.int .i64 a) (.int .i64 b) K) Q := by rw [kI64_add ⟨h1, h2⟩]; exact w
theorem w_sub_II {a b : Int} {K : Value → An} (h1 : -9223372036854775808 ≤ a - b) (h2 : a - b ≤ 9223372036854775807) (w : WP (K (.int .i64 (a - b))) Q) : WP (kI64 .sub (.int .i64 a) (.int .i64 b) K) Q := by rw [kI64_sub ⟨h1, h2⟩]; exact w
theorem w_sub_IN {a : Int} {b : Nat} {K : Value → An} (h1 : -9223372036854775808 ≤ a - (b : Int)) (h2 : a - (b : Int) ≤ 9223372036854775807) (w : WP (K (.int .i64 (a - (b : Int)))) Q) : WP (kI64 .sub (.int .i64 a) (.int .i64 (.ofNat b)) K) Q := w_sub_II h1 h2 w
theorem w_sub_NI {a : Nat} {b : Int} {K : Value → An} (h1 : -9223372036854775808 ≤ (a : Int) - b) (h2 : (a : Int) - b ≤ 9223372036854775807) (w : WP (K (.int .i64 ((a : Int) - b))) Q) : WP (kI64 .sub (.int .i64 (.ofNat a)) (.int .i64 b) K) Q := w_sub_II h1 h2 w
theorem w_add_NN {a b : Nat} {K : Value → An} (h : a + b ≤ 9223372036854775807) (w : WP (K (.int .i64 (.ofNat (a + b)))) Q) : WP (kI64 .add (.int .i64 (.ofNat a)) (.int .i64 (.ofNat b)) K) Q := by rw [kI64_addN h]; exact w
theorem w_sub_NN {a b : Nat} {K : Value → An} (h1 : b ≤ a) (h2 : a ≤ 9223372036854775807) (w : WP (K (.int .i64 (.ofNat (a - b)))) Q) : WP (kI64 .sub (.int .i64 (.ofNat a)) (.int .i64 (.ofNat b)) K) Q := by rw [kI64_subN h1 h2]; exact w
theorem w_sub_NNI {a b : Nat} {K : Value → An} (h1 : a ≤ 9223372036854775807) (h2 : b ≤ 9223372036854775807) (w : WP (K (.int .i64 ((a : Int) - (b : Int)))) Q) : WP (kI64 .sub (.int .i64 (.ofNat a)) (.int .i64 (.ofNat b)) K) Q := w_sub_II (by simp only [Int.ofNat_eq_natCast]; omega) (by simp only [Int.ofNat_eq_natCast]; omega) w
theorem w_mul_NN {a b : Nat} {K : Value → An} (h : a * b ≤ 9223372036854775807) (w : WP (K (.int .i64 (.ofNat (a * b)))) Q) : WP (kI64 .mul (.int .i64 (.ofNat a)) (.int .i64 (.ofNat b)) K) Q := by rw [kI64_mulN h]; exact w
theorem w_quo_NN {a b : Nat} {K : Value → An} (h1 : 0 < b) (h2 : a ≤ 9223372036854775807) (w : WP (K (.int .i64 (.ofNat (a / b)))) Q) : WP (kI64 .quo (.int .i64 (.ofNat a)) (.int .i64 (.ofNat b)) K) Q := by rw [kI64_quoN h1 h2]; exact w
theorem w_rem_NN {a b : Nat} {K : Value → An} (h1 : 0 < b) (w : WP (K (.int .i64 (.ofNat (a % b)))) Q) : WP (kI64 .rem (.int .i64 (.ofNat a)) (.int .i64 (.ofNat b)) K) Q := by rw [kI64_remN h1]; exact w
theorem kU64_eqlN (m d : Nat) (K : Value → An) : kU64 .eql (.int .u64 (.ofNat m)) (.int .u64 (.ofNat d)) K = K (.bool (decide (m = d))) := by
 show mkB (Nat.beq m d) K = _
 rw [mkB_eq]
 congr 2
 by_cases h : m = d
 ·rw [decide_eq_true h, beq_iff.2 h]
 ·rw [decide_eq_false h, beq_false.2 h]
theorem w_ueql {a b : Nat} {K : Value → An} (ht : a = b → WP (K (.bool true)) Q) (hf : ¬ a = b → WP (K (.bool false)) Q) : WP (kU64 .eql (.int .u64 (.ofNat a)) (.int .u64 (.ofNat b)) K) Q := by
 rw [kU64_eqlN]
 by_cases c : a = b
 ·rw [decide_eq_true c]; exact ht c
 ·rw [decide_eq_false c]; exact hf c
theorem w_uneq {a b : Nat} {K : Value → An} (ht : a = b → WP (K (.bool false)) Q) (hf : ¬ a = b → WP (K (.bool true)) Q) : WP (kU64 .neq (.int .u64 (.ofNat a)) (.int .u64 (.ofNat b)) K) Q := by
 show WP (ifB (Nat.beq a b) _ _) Q
 by_cases c : a = b
 ·rw [beq_iff.2 c]; exact ht c
 ·rw [beq_false.2 c]; exact hf c
theorem ble_lt {a b : Nat} (h : a < b) : Nat.ble b a = false := by
 cases e : Nat.ble b a with
 | false => rfl
 | true => have := Nat.le_of_ble_eq_true e; omega
theorem w_ugeq {a b : Nat} {K : Value → An} (ht : b ≤ a → WP (K (.bool true)) Q) (hf : ¬ b ≤ a → WP (K (.bool false)) Q) : WP (kU64 .geq (.int .u64 (.ofNat a)) (.int .u64 (.ofNat b)) K) Q := by
 show WP (mkB (Nat.ble b a) K) Q
 rw [mkB_eq]
 by_cases c : b ≤ a
 ·rw [Nat.ble_eq_true_of_le c]; exact ht c
 ·rw [ble_lt (by omega)]; exact hf c
theorem w_uand {a b : Nat} {K : Value → An} (ha : a ≤ 18446744073709551615) (hb : b ≤ 18446744073709551615) (w : WP (K (.int .u64 (.ofNat (a &&& b)))) Q) : WP (kU64 .and (.int .u64 (.ofNat a)) (.int .u64 (.ofNat b)) K) Q := by
 show WP (ifB (Nat.ble a 18446744073709551615) (ifB (Nat.ble b 18446744073709551615) (mkN .u64 (Nat.land a b) K) _) _) Q
 rw [Nat.ble_eq_true_of_le ha, Nat.ble_eq_true_of_le hb, mkN_eq]; exact w
theorem w_uor {a b : Nat} {K : Value → An} (ha : a ≤ 18446744073709551615) (hb : b ≤ 18446744073709551615) (w : WP (K (.int .u64 (.ofNat (a ||| b)))) Q) : WP (kU64 .or (.int .u64 (.ofNat a)) (.int .u64 (.ofNat b)) K) Q := by
 show WP (ifB (Nat.ble a 18446744073709551615) (ifB (Nat.ble b 18446744073709551615) (mkN .u64 (Nat.lor a b) K) _) _) Q
 rw [Nat.ble_eq_true_of_le ha, Nat.ble_eq_true_of_le hb, mkN_eq]; exact w
theorem w_shl {a n : Nat} {k : IntKind} {K : Value → An} (hn : n ≤ 64) (w : WP (K (.int .u64 (.ofNat (a * 2 ^ n % 18446744073709551616)))) Q) : WP (kShl (.int .u64 (.ofNat a)) (.int k (.ofNat n)) K) Q := by
 show WP (ifB (Nat.ble n 64) (mkN .u64 (Nat.mod (Nat.mul (Nat.pow 2 n) a) 18446744073709551616) K) _) Q
 rw [show Nat.mul (Nat.pow 2 n) a = a * 2 ^ n from Nat.mul_comm _ _]
 rw [Nat.ble_eq_true_of_le hn, mkN_eq]; exact w
theorem w_shr {a n : Nat} {k : IntKind} {K : Value → An} (hn : n ≤ 64) (w : WP (K (.int .u64 (.ofNat (a / 2 ^ n)))) Q) : WP (kShr (.int .u64 (.ofNat a)) (.int k (.ofNat n)) K) Q := by
 show WP (ifB (Nat.ble n 8) (mkN .u64 (Nat.div a (Nat.pow 2 n)) K) (ifB (Nat.ble n 64) (mkN .u64 (Nat.div a (Nat.pow 2 n)) K) _)) Q
 rw [Nat.ble_eq_true_of_le hn, mkN_eq]
 cases Nat.ble n 8 <;> exact w
theorem w_toU {a : Nat} {k : IntKind} {K : Value → An} (ha : a ≤ 18446744073709551615) (w : WP (K (.int .u64 (.ofNat a))) Q) : WP (kToU (.int k (.ofNat a)) K) Q := by
 show WP (ifB (Nat.ble a 18446744073709551615) _ _) Q
 rw [Nat.ble_eq_true_of_le ha]; exact w
theorem w_to64 {a : Nat} {k : IntKind} {K : Value → An} (ha : a ≤ 9223372036854775807) (w : WP (K (.int .i64 (.ofNat a))) Q) : WP (kTo64 (.int k (.ofNat a)) K) Q := by
 show WP (ifB (Nat.ble a 9223372036854775807) _ _) Q
 rw [Nat.ble_eq_true_of_le ha]; exact w
theorem Sto.row {h0 : Hs} {S : List Nat} {h : Hs} {m : List Th} (H : Sto h0 S h m) (e u : Nat) (cs : List Value) : Sto h0 S (Gev.newRow h e u cs) (.blk h.nx (.row e u true (flatL cs) cs) :: m) := by
 refine H.new (h' := Gev.newRow h e u cs) ⟨Nat.le_succ _, fun id hid => by rw [newRow_get, if_neg (by omega)]⟩ (fun x h1 _ => h1) (Nat.le_refl _) _ ?_ (fun b hb => ?_)
 ·show Holds ((Gev.newRow h e u cs).hp.get h.nx) (.row e u true (flatL cs) cs)
  rw [newRow_get, if_pos rfl]
  exact ⟨ofList cs, flatL cs, rfl, id, fun i => get_ofList cs i⟩
 ·have : h.nx = b := by injection hb
  subst this
  exact ⟨Nat.le_refl _, Nat.lt_succ_self _⟩
theorem w_alloc {h0 : Hs} {S : List Nat} {h : Hs} {m : List Th} {e : Nat} {z : List Value} {en : En} {K : KV} (H : Sto h0 S h m) (k : ∀ h', Sto h0 S h' (.blk h.nx (.row e 0 true (flatL z) z) :: m) → h'.nx = h.nx + 1 → WP (K (.pointer (some ⟨h.nx, 0, none⟩)) h') Q) :
 WP (after K (oAlloc e z en h)) Q := k _ (H.row e 0 z) rfl
theorem w_box {h0 : Hs} {S : List Nat} {h : Hs} {m : List Th} {e : Nat} {x : Value} {en : En} {K : KV} (H : Sto h0 S h m) (hx : isDunno x = false) (k : ∀ h', Sto h0 S h' (.blk h.nx (.row e 0 true (flatL (cellsL x)) (cellsL x)) :: m) → h'.nx = h.nx + 1 → WP (K (.pointer (some ⟨h.nx, 0, none⟩)) h') Q) :
 WP (after K (oBox e (.c x) en h)) Q := by
 have : oBox e (.c x) en h = some (.pointer (some ⟨h.nx, 0, none⟩), Gev.newRow h e 0 (cellsL x)) := by
  show (match isDunno x with | true => none | false => _) = _
  rw [hx]; rfl
 rw [this]
 exact k _ (H.row e 0 _) rfl
theorem Holds.load {h : Hs} {b o e u : Nat} {rw_ fl : Bool} {L : List Value} {v : Value} (H : Holds (h.hp.get b) (.row e u rw_ fl L)) (hv : L[o]? = some v) (hh : Hs) (hp : hh.hp.get b = h.hp.get b) (K : Value → An) : kLoad (.pointer (some ⟨b, o, none⟩)) hh K = K v := by
 obtain ⟨c, f, hb, _, hc⟩ := H
 exact kLoad_ok (by rw [hp]; exact hb) ((hc o).trans hv) K
theorem w_load (k : Nat) {h0 : Hs} {S : List Nat} {h hh : Hs} {m : List Th} {b o e u : Nat} {rw_ fl : Bool} {L : List Value} {v : Value} {K : Value → An} (H : Sto h0 S h m) (hk : m[k]? = some (.blk b (.row e u rw_ fl L))) (hp : hh.hp.get b = h.hp.get b) (hv : L[o]? = some v) (w : WP (K v) Q) :
 WP (kLoad (.pointer (some ⟨b, o, none⟩)) hh K) Q := by
 rw [Holds.load (H.ok _ (List.mem_of_getElem? hk)) hv hh hp]; exact w
theorem w_loadR (k : Nat) {h0 : Hs} {S : List Nat} {h hh : Hs} {m : List Th} {b o e u : Nat} {rw_ fl : Bool} {L : List Value} {v : Value} {K : Value → An} (H : Sto h0 S h m) (hk : m[k]? = some (.rob b (.row e u rw_ fl L))) (hp : hh.hp.get b = h.hp.get b) (hv : L[o]? = some v) (w : WP (K v) Q) :
 WP (kLoad (.pointer (some ⟨b, o, none⟩)) hh K) Q := by
 rw [Holds.load (H.ok _ (List.mem_of_getElem? hk)) hv hh hp]; exact w
theorem loadN_get : ∀ (n o : Nat) (c : Tr Value) (l acc : List Value), l.length = n → (∀ j, j < n → c.get (o + j) = l[j]?) → loadN c n o acc = some (acc.reverse ++ l) := by
 intro n
 induction n with
 | zero => intro o c l acc hl _; rw [List.eq_nil_of_length_eq_zero hl, loadN, List.append_nil]
 | succ n ih =>
  intro o c l acc hl hc
  cases l with
  | nil => cases hl
  | cons v l =>
   have h0 := hc 0 (by omega)
   rw [Nat.add_zero] at h0
   rw [loadN, h0]
   show loadN c n (Nat.succ o) (v :: acc) = _
   rw [ih (Nat.succ o) c l (v :: acc) (by simpa using hl) (fun j hj => by have := hc (j + 1) (by omega); rw [show Nat.succ o + j = o + (j + 1) from by omega]; exact this)]
   simp
theorem kLoads_get {h : Hs} {b o n : Nat} {c : Tr Value} {sz e u : Nat} {rw_ fl : Bool} {l : List Value} (hb : h.hp.get b = some (.row c sz e u rw_ fl)) (hl : l.length = n) (hc : ∀ j, j < n → c.get (o + j) = l[j]?) (K : Value → An) : kLoads n (.pointer (some ⟨b, o, none⟩)) h K = K (.agg l.toArray) := by
 show getB h b _ = _
 unfold getB
 rw [getK_eq, hb]
 show Option.rec (motive := fun _ => An) none (fun cs => K (.agg cs.toArray)) (loadN c n o []) = _
 rw [loadN_get n o c l [] hl hc]; rfl
theorem Holds.loads {h : Hs} {b o n e u : Nat} {rw_ fl : Bool} {L l : List Value} (H : Holds (h.hp.get b) (.row e u rw_ fl L)) (hl : (L.drop o).take n = l) (hn : l.length = n) (hh : Hs) (hp : hh.hp.get b = h.hp.get b) (K : Value → An) : kLoads n (.pointer (some ⟨b, o, none⟩)) hh K = K (.agg l.toArray) := by
 obtain ⟨c, f, hb, _, hc⟩ := H
 refine kLoads_get (by rw [hp]; exact hb) hn (fun j hj => ?_) K
 rw [hc, ← hl, List.getElem?_take_of_lt hj, List.getElem?_drop]
theorem w_loads (k : Nat) {h0 : Hs} {S : List Nat} {h hh : Hs} {m : List Th} {b o n e u : Nat} {rw_ fl : Bool} {L l : List Value} {K : Value → An} (H : Sto h0 S h m) (hk : m[k]? = some (.blk b (.row e u rw_ fl L))) (hp : hh.hp.get b = h.hp.get b) (hl : (L.drop o).take n = l) (hn : l.length = n) (w : WP (K (.agg l.toArray)) Q) :
 WP (kLoads n (.pointer (some ⟨b, o, none⟩)) hh K) Q := by
 rw [Holds.loads (H.ok _ (List.mem_of_getElem? hk)) hl hn hh hp]; exact w
theorem w_loadsR (k : Nat) {h0 : Hs} {S : List Nat} {h hh : Hs} {m : List Th} {b o n e u : Nat} {rw_ fl : Bool} {L l : List Value} {K : Value → An} (H : Sto h0 S h m) (hk : m[k]? = some (.rob b (.row e u rw_ fl L))) (hp : hh.hp.get b = h.hp.get b) (hl : (L.drop o).take n = l) (hn : l.length = n) (w : WP (K (.agg l.toArray)) Q) :
 WP (kLoads n (.pointer (some ⟨b, o, none⟩)) hh K) Q := by
 rw [Holds.loads (H.ok _ (List.mem_of_getElem? hk)) hl hn hh hp]; exact w
theorem w_idxR (k : Nat) {h0 : Hs} {S : List Nat} {h : Hs} {m : List Th} {v : Value} {u i : Nat} {L : List (List Value)} {l : List Value} {K : Value → An} (H : Sto h0 S h m) (hk : m[k]? = some (.rsl v u L)) (hi : L[i]? = some l)
 (kk : ∀ b o, Sto h0 S h (.rel b o l :: m) → WP (K (.pointer (some ⟨b, o, none⟩))) Q) : WP (kIdxA u v (.int .i64 (.ofNat i)) K) Q := by
 have o := H.ok _ (List.mem_of_getElem? hk)
 have li := (List.getElem?_eq_some_iff.1 hi).1
 rcases o.2 with ⟨a, c, rfl, rfl⟩ | ⟨id, o', c, cs, sz, e, u', rw_, f, rfl, hcap, hb, hu, hc⟩
 ·simp at hi
 ·rw [kIdxA_ok li]
  have hid : Th.id (.rsl (.slice (some ⟨id, o', none⟩) L.length c) u L) = some id := by
   cases L with
   | nil => simp at hi
   | cons x L => rfl
  refine kk _ _ (H.cons (.rel id (o' + i * u) l) ⟨cs, sz, e, u', rw_, f, hb, fun j hj => ?_⟩ (fun b hb => ?_) fun s hs he b hb hs' => ?_)
  ·have := o.1 l (List.mem_of_getElem? hi)
   exact hc i j l hi (by omega)
  ·have : id = b := by injection hb
   subst this
   exact ⟨(H.ids _ (List.mem_of_getElem? hk) _ hid).1, fun e => by cases e⟩
  ·have : id = b := by injection hb
   subst this
   rcases he with he | he
   ·cases he
   ·obtain ⟨j, hj⟩ := List.getElem?_of_mem hs
    refine H.dj j k s _ hj hk (fun e => ?_) he _ hs' hid
    subst e
    rw [hk] at hj
    injection hj with hj
    subst hj
    cases he
theorem w_loadE (k : Nat) {h0 : Hs} {S : List Nat} {h hh : Hs} {m : List Th} {b o j : Nat} {l : List Value} {v : Value} {K : Value → An} (H : Sto h0 S h m) (hk : m[k]? = some (.rel b o l)) (hp : hh.hp.get b = h.hp.get b) (hv : l[j]? = some v) (w : WP (K v) Q) : WP (kLoad (.pointer (some ⟨b, o + j, none⟩)) hh K) Q := by
 obtain ⟨cs, sz, e, u, rw_, f, hb, hc⟩ := H.ok _ (List.mem_of_getElem? hk)
 rw [kLoad_ok (by rw [hp]; exact hb) ((hc j (List.getElem?_eq_some_iff.1 hv).1).trans hv)]; exact w
theorem w_loadE0 (k : Nat) {h0 : Hs} {S : List Nat} {h hh : Hs} {m : List Th} {b o : Nat} {l : List Value} {v : Value} {K : Value → An} (H : Sto h0 S h m) (hk : m[k]? = some (.rel b o l)) (hp : hh.hp.get b = h.hp.get b) (hv : l[0]? = some v) (w : WP (K v) Q) : WP (kLoad (.pointer (some ⟨b, o, none⟩)) hh K) Q :=
 w_loadE (j := 0) k H hk hp hv w
theorem w_loadsE (k : Nat) {h0 : Hs} {S : List Nat} {h hh : Hs} {m : List Th} {b o n : Nat} {l : List Value} {K : Value → An} (H : Sto h0 S h m) (hk : m[k]? = some (.rel b o l)) (hp : hh.hp.get b = h.hp.get b) (hn : l.length = n) (w : WP (K (.agg l.toArray)) Q) : WP (kLoads n (.pointer (some ⟨b, o, none⟩)) hh K) Q := by
 obtain ⟨cs, sz, e, u, rw_, f, hb, hc⟩ := H.ok _ (List.mem_of_getElem? hk)
 rw [kLoads_get (by rw [hp]; exact hb) hn (fun j hj => hc j (by omega))]; exact w
theorem w_at (k : Nat) {h0 : Hs} {S : List Nat} {h hh : Hs} {m : List Th} {v : Value} {u i n : Nat} {L : List (List Value)} {l : List Value} {K : Value → An} (H : Sto h0 S h m) (hk : m[k]? = some (.rsl v u L)) (hi : L[i]? = some l) (hp : hh.hp = h.hp) (hn : l.length = n) (w : WP (K (.agg l.toArray)) Q) :
 WP (kIdxA u v (.int .i64 (.ofNat i)) (fun p => kLoads n p hh K)) Q := w_idxR k H hk hi fun _ _ H' => w_loadsE 0 H' rfl (by rw [hp]) hn w
theorem w_at1 (k : Nat) {h0 : Hs} {S : List Nat} {h hh : Hs} {m : List Th} {v : Value} {u i : Nat} {L : List (List Value)} {l : List Value} {x : Value} {K : Value → An} (H : Sto h0 S h m) (hk : m[k]? = some (.rsl v u L)) (hi : L[i]? = some l) (hp : hh.hp = h.hp) (hv : l[0]? = some x) (w : WP (K x) Q) :
 WP (kIdxA u v (.int .i64 (.ofNat i)) (fun p => kLoad p hh K)) Q := w_idxR k H hk hi fun _ _ H' => w_loadE0 0 H' rfl (by rw [hp]) hv w
theorem Sto.wr {h0 : Hs} {S : List Nat} {h : Hs} {m : List Th} {k b e u : Nat} {fl fl' f' : Bool} {L L' : List Value} {c' : Tr Value} (H : Sto h0 S h m) (hk : m[k]? = some (.blk b (.row e u true fl L))) (hl : L'.length = L.length) (hc : ∀ i, c'.get i = L'[i]?) (hf : fl' = true → f' = true) :
 Sto h0 S ⟨h.hp.set b (some (.row c' L.length e u true f')), h.nx, minN h.lo b⟩ (m.set k (.blk b (.row e u true fl' L'))) := by
 refine H.upd hk rfl (Nat.le_refl _) (fun b' _ hb' => ?_) (fun x h1 _ h2 => ?_) (minN_le_left _ _) (fun b' hb' => .inl ?_) ?_ (fun b' hb' => ?_)
 ·show (h.hp.set b _).get b' = _
  rw [Tr.get_set, if_neg]
  intro e; exact hb' (by rw [e]; rfl)
 ·show x ≤ minN h.lo b
  rw [minN_eq]
  have := h2 b rfl
  omega
 ·have : b = b' := by injection hb'
  subst this; exact minN_le_right _ _
 ·show Holds (Tr.get (h.hp.set b (some (.row c' L.length e u true f'))) b) (.row e u true fl' L')
  rw [Tr.get_set, if_pos rfl]
  exact ⟨c', f', by rw [hl], hf, hc⟩
 ·have : b = b' := by injection hb'
  subst this
  exact ⟨(H.ids _ (List.mem_of_getElem? hk) b rfl).1, .inl rfl⟩
theorem flF_eq (fl : Bool) (x : Value) (F : Bool → An) : flF fl x F = F (andB fl (flat1 x)) := by
 unfold flF
 cases fl
 ·rfl
 ·cases flat1 x <;> rfl
theorem loF_eq (lo b : Nat) (F : Nat → An) : loF lo b F = F (minN lo b) := by
 unfold loF minN
 cases Nat.ble lo b <;> rfl
theorem w_store1 (k : Nat) {h0 : Hs} {S : List Nat} {h : Hs} {m : List Th} {b o e u : Nat} {fl : Bool} {L : List Value} {x : Value} {K : KV} (H : Sto h0 S h m) (hk : m[k]? = some (.blk b (.row e u true fl L))) (ho : o < L.length) (hx : oneC x = true)
 (kk : ∀ h', Sto h0 S h' (m.set k (.blk b (.row e u true (andB fl (flat1 x)) (L.set o x)))) → h'.nx = h.nx → WP (K undef' h') Q) : WP (kStore1 (.pointer (some ⟨b, o, none⟩)) x h K) Q := by
 obtain ⟨c, f, hb, hf, hc⟩ := H.ok _ (List.mem_of_getElem? hk)
 have hv : Tr.getK c o = some L[o] := by rw [getK_eq, hc, List.getElem?_eq_getElem ho]
 have e1 : kStore1 (.pointer (some ⟨b, o, none⟩)) x h K = K undef' ⟨h.hp.set b (some (.row (c.set o (some x)) L.length e u true (andB f (flat1 x)))), h.nx, minN h.lo b⟩ := by
  unfold kStore1
  rw [hx]
  show getB h b (fun B => st1 h b o x K B) = _
  unfold getB
  rw [getK_eq, hb]
  show st1 h b o x K (.row c L.length e u true f) = _
  unfold st1
  show Option.rec (motive := fun _ => An) none _ (Tr.getK c o) = _
  rw [hv]
  obtain ⟨hp, nx, lo⟩ := h
  show flF f x _ = _
  rw [flF_eq, loF_eq, setK_eq, setK_eq]
 rw [e1]
 refine kk _ (H.wr hk (List.length_set ..) (fun i => ?_) (fun hh => ?_)) rfl
 ·rw [Tr.get_set, List.getElem?_set]
  by_cases e : o = i
  ·rw [if_pos e, if_pos e]
   subst e
   simp [ho]
  ·rw [if_neg e, if_neg e]; exact hc i
 ·cases fl with
  | false => cases hh
  | true => rw [hf rfl]; exact hh
theorem storeN_get : ∀ (vs : List Value) (o : Nat) (c : Tr Value) (L : List Value), (∀ i, c.get i = L[i]?) → allOne vs = true → o + vs.length ≤ L.length → ∃ c', storeN vs o c = some c' ∧ ∀ i, c'.get i = (if o ≤ i ∧ i < o + vs.length then vs[i - o]? else L[i]?) := by
 intro vs
 induction vs with
 | nil => intro o c L hc _ _; exact ⟨c, rfl, fun i => by rw [if_neg (by simp only [List.length_nil]; omega)]; exact hc i⟩
 | cons v vs ih =>
  intro o c L hc h1 hl
  simp only [List.length_cons] at hl
  have hv : oneC v = true ∧ allOne vs = true := by
   unfold allOne at h1
   cases hh : oneC v with
   | false => rw [hh] at h1; cases h1
   | true => rw [hh] at h1; exact ⟨rfl, h1⟩
  obtain ⟨c', e1, e2⟩ := ih (Nat.succ o) (c.set o (some v)) (L.set o v) (fun i => by
   rw [Tr.get_set, List.getElem?_set]
   by_cases e : o = i
   ·subst e; rw [if_pos rfl, if_pos rfl, if_pos (by omega)]
   ·rw [if_neg e, if_neg e]; exact hc i) hv.2 (by rw [List.length_set]; omega)
  refine ⟨c', ?_, fun i => ?_⟩
  ·rw [storeN, hv.1]
   show (match c.get o with | some _ => storeN vs (Nat.succ o) (c.set o (some v)) | none => none) = _
   rw [hc o, List.getElem?_eq_getElem (by omega)]
   exact e1
  ·rw [e2, List.getElem?_set]
   simp only [List.length_cons]
   by_cases a : Nat.succ o ≤ i ∧ i < Nat.succ o + vs.length
   ·rw [if_pos a, if_pos (by omega)]
    obtain ⟨d, rfl⟩ : ∃ d, i = o + (d + 1) := ⟨i - o - 1, by omega⟩
    rw [show o + (d + 1) - Nat.succ o = d from by omega, show o + (d + 1) - o = d + 1 from by omega]
    simp
   ·rw [if_neg a]
    by_cases e : o = i
    ·subst e
     rw [if_pos rfl, if_pos (by omega), if_pos (by omega), Nat.sub_self]; rfl
    ·rw [if_neg e, if_neg (by omega)]
def setL (L : List Value) (o : Nat) (vs : List Value) : List Value := L.take o ++ vs ++ L.drop (o + vs.length)
theorem setL_len {L : List Value} {o : Nat} {vs : List Value} (h : o + vs.length ≤ L.length) : (setL L o vs).length = L.length := by
 unfold setL
 simp only [List.length_append, List.length_take, List.length_drop]
 omega
theorem setL_get {L : List Value} {o : Nat} {vs : List Value} (h : o + vs.length ≤ L.length) (i : Nat) : (setL L o vs)[i]? = if o ≤ i ∧ i < o + vs.length then vs[i - o]? else L[i]? := by
 unfold setL
 have lt : (L.take o).length = o := by rw [List.length_take]; omega
 by_cases h1 : i < o
 ·rw [if_neg (by omega), List.append_assoc, List.getElem?_append_left (by omega), List.getElem?_take_of_lt h1]
 ·rw [List.append_assoc, List.getElem?_append_right (by omega), lt]
  by_cases h2 : i < o + vs.length
  ·rw [if_pos (by omega), List.getElem?_append_left (by omega)]
  ·rw [if_neg (by omega), List.getElem?_append_right (by omega), List.getElem?_drop]
   congr 1; omega
theorem storeB_get {h : Hs} {b o e u : Nat} {fl : Bool} {L vs : List Value} {h0 : Hs} {S : List Nat} {m : List Th} {k : Nat} (H : Sto h0 S h m) (hk : m[k]? = some (.blk b (.row e u true fl L))) (hn : vs ≠ []) (h1 : allOne vs = true) (ho : o + vs.length ≤ L.length) :
 ∃ h', storeB h b o vs (h.hp.get b) = some h' ∧ h'.nx = h.nx ∧ Sto h0 S h' (m.set k (.blk b (.row e u true (andB fl (flatL vs)) (setL L o vs)))) := by
 obtain ⟨c, f, hb, hf, hc⟩ := H.ok _ (List.mem_of_getElem? hk)
 obtain ⟨c', e1, e2⟩ := storeN_get vs o c L hc h1 ho
 refine ⟨⟨h.hp.set b (some (.row c' L.length e u true (andB f (flatL vs)))), h.nx, minN h.lo b⟩, ?_, rfl, H.wr hk (setL_len ho) (fun i => by rw [e2, setL_get ho]) (fun hh => ?_)⟩
 ·rw [hb]
  cases vs with
  | nil => exact absurd rfl hn
  | cons v vs =>
   show setRow h b L.length e u (andB f (flatL (v :: vs))) (storeN (v :: vs) o c) = _
   rw [e1]; rfl
 ·cases fl with
  | false => cases hh
  | true => rw [hf rfl]; exact hh
theorem w_storeN (k : Nat) {h0 : Hs} {S : List Nat} {h : Hs} {m : List Th} {b o n e u : Nat} {fl : Bool} {L : List Value} {x : Value} {K : KV} (H : Sto h0 S h m) (hk : m[k]? = some (.blk b (.row e u true fl L))) (hn : (cellsL x).length = n) (h0n : 0 < n) (ho : o + n ≤ L.length) (hx : allOne (cellsL x) = true)
 (kk : ∀ h', Sto h0 S h' (m.set k (.blk b (.row e u true (andB fl (flatL (cellsL x))) (setL L o (cellsL x))))) → h'.nx = h.nx → WP (K undef' h') Q) : WP (after K (store1 n h (cellsL x) (addrOf (.pointer (some ⟨b, o, none⟩))))) Q := by
 obtain ⟨h', e1, e2, e3⟩ := storeB_get (o := o) (vs := cellsL x) H hk (fun e => by rw [e] at hn; simp at hn; omega) hx (by omega)
 have : store1 n h (cellsL x) (addrOf (.pointer (some ⟨b, o, none⟩))) = some (undef', h') := by
  unfold store1
  rw [hn, Nat.beq_refl]
  show unit1 (storeB h b o (cellsL x) (h.hp.get b)) = _
  rw [e1]; rfl
 rw [this]
 exact kk h' e3 e2
end Go.Gev
namespace Go.Gev
def renA (ρ : Nat → Nat) (a : Addr) : Addr := match a.spot with
 | none => ⟨ρ a.block, a.off, none⟩
 | some _ => a
def renC (ρ : Nat → Nat) : Value → Value
 | .pointer (some a) => .pointer (some (renA ρ a))
 | .slice (some a) n c => .slice (some (renA ρ a)) n c
 | v => v
def renP (ρ : Nat → Nat) : Value → Value
 | .agg cs => .agg (cs.toList.map (renC ρ)).toArray
 | v => renC ρ v
def renV (ρ : Nat → Nat) : Value → Value
 | .tuple vs => .tuple (vs.toList.map (renP ρ)).toArray
 | v => renP ρ v
def blkA (a : Addr) : List Nat := match a.spot with
 | none => [a.block]
 | some _ => []
def blkC : Value → List Nat
 | .pointer (some a) => blkA a
 | .slice (some a) _ _ => blkA a
 | _ => []
def blkP : Value → List Nat
 | .agg cs => cs.toList.flatMap blkC
 | v => blkC v
def blkV : Value → List Nat
 | .tuple vs => vs.toList.flatMap blkP
 | v => blkP v
def rho (n0 : Nat) (mp : List (Nat × Nat)) (b : Nat) : Nat := match Nat.blt b n0 with
 | true => b
 | false => match lookN b mp with
  | some x => x
  | none => 0
structure MvsOk (hp0 src : Tr Blk) (n0 : Nat) (m : Mv) : Prop where
 nx : n0 ≤ m.nx
 old : ∀ b, b < n0 → m.hp.get b = hp0.get b
 at_ : ∀ k x, lookN k m.mp = some x → n0 ≤ x ∧ x < m.nx ∧ m.hp.get x = src.get k
 inj : ∀ k k' x, lookN k m.mp = some x → lookN k' m.mp = some x → k = k'
def MvLe (m m' : Mv) : Prop := ∀ k x, lookN k m.mp = some x → lookN k m'.mp = some x
theorem MvLe.refl (m : Mv) : MvLe m m := fun _ _ h => h
theorem MvLe.trans {a b c : Mv} (h : MvLe a b) (k : MvLe b c) : MvLe a c := fun x y q => k x y (h x y q)
theorem rho_le {n0 : Nat} {m m' : Mv} (h : MvLe m m') {b x : Nat} (hb : lookN b m.mp = some x) : rho n0 m'.mp b = rho n0 m.mp b := by
 unfold rho
 rw [hb, h b x hb]
section
variable {hp0 src : Tr Blk} {n0 : Nat}
theorem mvId_rn {m m' : Mv} {id x : Nat} (M : MvsOk hp0 src n0 m) (h : mvId src n0 m id = some (x, m')) : MvsOk hp0 src n0 m' ∧ MvLe m m' ∧ x = rho n0 m'.mp id ∧ (n0 ≤ id → (lookN id m'.mp).isSome) := by
 unfold mvId at h
 cases hb : Nat.blt id n0 with
 | true =>
  rw [hb] at h
  injection h with h; injection h with h1 h2
  subst h1 h2
  refine ⟨M, MvLe.refl _, by unfold rho; rw [hb], fun h => ?_⟩
  rw [blt_eq] at hb
  have := of_decide_eq_true hb; omega
 | false =>
  rw [hb] at h
  have h : mvOld src m id (lookN id m.mp) = some (x, m') := h
  cases hl : lookN id m.mp with
  | some y =>
   rw [hl] at h
   injection h with h; injection h with h1 h2
   subst h1 h2
   exact ⟨M, MvLe.refl _, by unfold rho; rw [hb, hl], fun _ => by rw [hl]; rfl⟩
  | none =>
   rw [hl] at h
   have h : mvNew m id (src.get id) = some (x, m') := h
   unfold mvNew at h
   split at h
   ·rename_i c n e u rw_ fl hs
    cases fl with
    | false => cases h
    | true =>
     injection h with h; injection h with h1 h2
     subst h1 h2
     have lk : ∀ k y, lookN k ((id, m.nx) :: m.mp) = some y → (k = id ∧ y = m.nx) ∨ (k ≠ id ∧ lookN k m.mp = some y) := fun k y hk => by
      unfold lookN at hk
      cases e : Nat.beq id k with
      | true => rw [show (Nat.beq (id, m.nx).1 k) = true from e] at hk; injection hk with hk; exact .inl ⟨(beq_iff.1 e).symm, hk.symm⟩
      | false => rw [show (Nat.beq (id, m.nx).1 k) = false from e] at hk; exact .inr ⟨fun q => beq_false.1 e q.symm, hk⟩
     have self : lookN id ((id, m.nx) :: m.mp) = some m.nx := by
      unfold lookN
      rw [show (Nat.beq (id, m.nx).1 id) = true from Nat.beq_refl id]
     refine ⟨⟨Nat.le_trans M.nx (Nat.le_succ _), fun b hb' => ?_, fun k y hk => ?_, fun k k' y h1 h2 => ?_⟩, fun k y hk => ?_, ?_, fun _ => by rw [self]; rfl⟩
     ·show (m.hp.set m.nx _).get b = _
      rw [Tr.get_set, if_neg (by have := M.nx; omega)]
      exact M.old b hb'
     ·rcases lk k y hk with ⟨rfl, rfl⟩ | ⟨_, h1⟩
      ·refine ⟨M.nx, Nat.lt_succ_self _, ?_⟩
       show (m.hp.set m.nx _).get m.nx = _
       rw [Tr.get_set, if_pos rfl, hs]
      ·obtain ⟨a1, a2, a3⟩ := M.at_ k y h1
       refine ⟨a1, Nat.lt_succ_of_lt a2, ?_⟩
       show (m.hp.set m.nx _).get y = _
       rw [Tr.get_set, if_neg (by omega)]
       exact a3
     ·rcases lk k y h1 with ⟨a1, a2⟩ | ⟨_, q1⟩
      ·rcases lk k' y h2 with ⟨b1, _⟩ | ⟨_, q2⟩
       ·rw [a1, b1]
       ·have := (M.at_ _ _ q2).2.1; omega
      ·rcases lk k' y h2 with ⟨_, b2⟩ | ⟨_, q2⟩
       ·have := (M.at_ _ _ q1).2.1; omega
       ·exact M.inj k k' y q1 q2
     ·unfold lookN
      have : k ≠ id := fun e => by subst e; rw [hl] at hk; cases hk
      rw [show (Nat.beq (id, m.nx).1 k) = false from beq_false.2 fun e => this e.symm]
      exact hk
     ·unfold rho
      rw [hb, self]
   ·cases h
structure Moved (hp0 src : Tr Blk) (n0 : Nat) (m m' : Mv) (bs : List Nat) : Prop where
 ok : MvsOk hp0 src n0 m'
 le : MvLe m m'
 has : ∀ b ∈ bs, n0 ≤ b → (lookN b m'.mp).isSome
theorem renC_le {m m' : Mv} (h : MvLe m m') {v : Value} (hb : ∀ b ∈ blkC v, n0 ≤ b → (lookN b m.mp).isSome) : renC (rho n0 m'.mp) v = renC (rho n0 m.mp) v := by
 have hr : ∀ b, (n0 ≤ b → (lookN b m.mp).isSome) → rho n0 m'.mp b = rho n0 m.mp b := fun b q => by
  by_cases e : n0 ≤ b
  ·obtain ⟨x, hx⟩ := Option.isSome_iff_exists.1 (q e)
   exact rho_le h hx
  ·unfold rho
   rw [show Nat.blt b n0 = true from by rw [blt_eq]; simpa using e]
 have ha : ∀ a : Addr, (∀ b ∈ blkA a, n0 ≤ b → (lookN b m.mp).isSome) → renA (rho n0 m'.mp) a = renA (rho n0 m.mp) a := fun a q => by
  obtain ⟨b, o, s⟩ := a
  cases s with
  | some x => rfl
  | none => unfold renA; simp only; rw [hr b (q b (by simp [blkA]))]
 cases v with
 | pointer p => cases p with
  | none => rfl
  | some a => show Value.pointer (some (renA _ a)) = Value.pointer (some (renA _ a)); rw [ha a hb]
 | slice p n c => cases p with
  | none => rfl
  | some a => show Value.slice (some (renA _ a)) n c = Value.slice (some (renA _ a)) n c; rw [ha a hb]
 | _ => rfl
theorem mvCell_rn {m m' : Mv} {v v' : Value} (M : MvsOk hp0 src n0 m) (h : mvCell src n0 m v = some (v', m')) : Moved hp0 src n0 m m' (blkC v) ∧ v' = renC (rho n0 m'.mp) v := by
 have addr : ∀ (K : Addr → Value) (a : Addr) (v' : Value), mvAddr src n0 m K a = some (v', m') → Moved hp0 src n0 m m' (blkA a) ∧ v' = K (renA (rho n0 m'.mp) a) := fun K a v' h => by
  obtain ⟨b, o, s⟩ := a
  cases s with
  | some x =>
   injection h with h; injection h with h1 h2
   subst h1 h2
   exact ⟨⟨M, MvLe.refl _, fun b hb => by cases hb⟩, rfl⟩
  | none =>
   have h : atNew o K (mvId src n0 m b) = some (v', m') := h
   cases hm : mvId src n0 m b with
   | none => rw [hm] at h; cases h
   | some p =>
    obtain ⟨x, m1⟩ := p
    rw [hm] at h
    injection h with h; injection h with h1 h2
    obtain ⟨a1, a2, a3, a4⟩ := mvId_rn M hm
    subst h1 h2
    refine ⟨⟨a1, a2, fun b' hb' => ?_⟩, ?_⟩
    ·have : b' = b := by simpa [blkA] using hb'
     subst this; exact a4
    ·show K ⟨x, o, none⟩ = K ⟨rho n0 m1.mp b, o, none⟩
     rw [a3]
 have flat : flat1 v = true → blkC v = [] → (∀ ρ, renC ρ v = v) → mvCell src n0 m v = some (v, m) → Moved hp0 src n0 m m' (blkC v) ∧ v' = renC (rho n0 m'.mp) v := fun _ hb hr e => by
  rw [e] at h
  injection h with h; injection h with h1 h2
  subst h1 h2
  exact ⟨⟨M, MvLe.refl _, fun b hb' => by rw [hb] at hb'; cases hb'⟩, (hr _).symm⟩
 cases v with
 | pointer p => cases p with
  | none => exact flat rfl rfl (fun _ => rfl) rfl
  | some a => exact addr _ a v' h
 | slice p n c => cases p with
  | none => exact flat rfl rfl (fun _ => rfl) rfl
  | some a => exact addr _ a v' h
 | int k n => exact flat rfl rfl (fun _ => rfl) rfl
 | bool b => exact flat rfl rfl (fun _ => rfl) rfl
 | string s => exact flat rfl rfl (fun _ => rfl) rfl
 | nilIface => exact flat rfl rfl (fun _ => rfl) rfl
 | nilFunc => exact flat rfl rfl (fun _ => rfl) rfl
 | _ => cases h
theorem mvCells_rn : ∀ {vs vs' : List Value} {m m' : Mv}, MvsOk hp0 src n0 m → mvCells src n0 vs m = some (vs', m') → Moved hp0 src n0 m m' (vs.flatMap blkC) ∧ vs' = vs.map (renC (rho n0 m'.mp)) := by
 intro vs
 induction vs with
 | nil =>
  intro vs' m m' M h
  injection h with h; injection h with h1 h2
  subst h1 h2
  exact ⟨⟨M, MvLe.refl _, fun b hb => by cases hb⟩, rfl⟩
 | cons v vs ih =>
  intro vs' m m' M h
  have h : mvCons (mvCells src n0 vs) (mvCell src n0 m v) = some (vs', m') := h
  cases hm : mvCell src n0 m v with
  | none => rw [hm] at h; cases h
  | some p =>
   obtain ⟨w, m1⟩ := p
   rw [hm] at h
   have h : (match mvCells src n0 vs m1 with | none => none | some q => some (w :: q.1, q.2)) = some (vs', m') := h
   obtain ⟨a1, a2⟩ := mvCell_rn M hm
   cases hq : mvCells src n0 vs m1 with
   | none => rw [hq] at h; cases h
   | some q =>
    obtain ⟨ws, m2⟩ := q
    rw [hq] at h
    injection h with h; injection h with h1 h2
    obtain ⟨b1, b2⟩ := ih a1.ok hq
    subst h1 h2
    refine ⟨⟨b1.ok, a1.le.trans b1.le, fun b hb hn => ?_⟩, ?_⟩
    ·rw [List.flatMap_cons] at hb
     rcases List.mem_append.1 hb with hb | hb
     ·obtain ⟨x, hx⟩ := Option.isSome_iff_exists.1 (a1.has b hb hn)
      rw [b1.le b x hx]; rfl
     ·exact b1.has b hb hn
    ·simp only [List.map_cons]
     rw [renC_le b1.le a1.has, ← a2, b2]
theorem notAgg {v : Value} (h : ∀ cs, v ≠ .agg cs) : (∀ ρ, renP ρ v = renC ρ v) ∧ blkP v = blkC v ∧ ∀ src n0 m, mvPart src n0 m v = mvCell src n0 m v := by
 cases v with
 | agg cs => exact absurd rfl (h cs)
 | _ => exact ⟨fun _ => rfl, rfl, fun _ _ _ => rfl⟩
theorem notTup {v : Value} (h : ∀ cs, v ≠ .tuple cs) : (∀ ρ, renV ρ v = renP ρ v) ∧ blkV v = blkP v ∧ ∀ src n0 m, mvAll src n0 m v = mvPart src n0 m v := by
 cases v with
 | tuple cs => exact absurd rfl (h cs)
 | _ => exact ⟨fun _ => rfl, rfl, fun _ _ _ => rfl⟩
theorem isAgg (v : Value) : (∃ cs, v = .agg cs) ∨ ∀ cs, v ≠ .agg cs := by
 cases v with
 | agg cs => exact .inl ⟨cs, rfl⟩
 | _ => exact .inr fun cs h => by cases h
theorem isTup (v : Value) : (∃ cs, v = .tuple cs) ∨ ∀ cs, v ≠ .tuple cs := by
 cases v with
 | tuple cs => exact .inl ⟨cs, rfl⟩
 | _ => exact .inr fun cs h => by cases h
theorem renP_le {m m' : Mv} (h : MvLe m m') {v : Value} (hb : ∀ b ∈ blkP v, n0 ≤ b → (lookN b m.mp).isSome) : renP (rho n0 m'.mp) v = renP (rho n0 m.mp) v := by
 rcases isAgg v with ⟨cs, rfl⟩ | hv
 ·show Value.agg _ = Value.agg _
  congr 2
  refine List.map_congr_left fun x hx => renC_le h fun b hb' hn => hb b ?_ hn
  exact List.mem_flatMap.2 ⟨x, hx, hb'⟩
 ·rw [(notAgg hv).1, (notAgg hv).1]
  exact renC_le h fun b hb' => hb b (by rw [(notAgg hv).2.1]; exact hb')
theorem mvPart_rn {m m' : Mv} {v v' : Value} (M : MvsOk hp0 src n0 m) (h : mvPart src n0 m v = some (v', m')) : Moved hp0 src n0 m m' (blkP v) ∧ v' = renP (rho n0 m'.mp) v := by
 rcases isAgg v with ⟨cs, rfl⟩ | hv
 ·have h : mvWrap (fun l => .agg l.toArray) (mvCells src n0 cs.toList m) = some (v', m') := h
  cases hm : mvCells src n0 cs.toList m with
  | none => rw [hm] at h; cases h
  | some p =>
   obtain ⟨ws, m1⟩ := p
   rw [hm] at h
   injection h with h; injection h with h1 h2
   obtain ⟨a1, a2⟩ := mvCells_rn M hm
   subst h1 h2
   exact ⟨a1, by rw [a2]; rfl⟩
 ·rw [(notAgg hv).2.2] at h
  rw [(notAgg hv).1, (notAgg hv).2.1]
  exact mvCell_rn M h
theorem mvParts_rn : ∀ {vs vs' : List Value} {m m' : Mv}, MvsOk hp0 src n0 m → mvParts src n0 vs m = some (vs', m') → Moved hp0 src n0 m m' (vs.flatMap blkP) ∧ vs' = vs.map (renP (rho n0 m'.mp)) := by
 intro vs
 induction vs with
 | nil =>
  intro vs' m m' M h
  injection h with h; injection h with h1 h2
  subst h1 h2
  exact ⟨⟨M, MvLe.refl _, fun b hb => by cases hb⟩, rfl⟩
 | cons v vs ih =>
  intro vs' m m' M h
  have h : mvCons (mvParts src n0 vs) (mvPart src n0 m v) = some (vs', m') := h
  cases hm : mvPart src n0 m v with
  | none => rw [hm] at h; cases h
  | some p =>
   obtain ⟨w, m1⟩ := p
   rw [hm] at h
   have h : (match mvParts src n0 vs m1 with | none => none | some q => some (w :: q.1, q.2)) = some (vs', m') := h
   obtain ⟨a1, a2⟩ := mvPart_rn M hm
   cases hq : mvParts src n0 vs m1 with
   | none => rw [hq] at h; cases h
   | some q =>
    obtain ⟨ws, m2⟩ := q
    rw [hq] at h
    injection h with h; injection h with h1 h2
    obtain ⟨b1, b2⟩ := ih a1.ok hq
    subst h1 h2
    refine ⟨⟨b1.ok, a1.le.trans b1.le, fun b hb hn => ?_⟩, ?_⟩
    ·rw [List.flatMap_cons] at hb
     rcases List.mem_append.1 hb with hb | hb
     ·obtain ⟨x, hx⟩ := Option.isSome_iff_exists.1 (a1.has b hb hn)
      rw [b1.le b x hx]; rfl
     ·exact b1.has b hb hn
    ·simp only [List.map_cons]
     rw [renP_le b1.le a1.has, ← a2, b2]
theorem mvAll_rn {m m' : Mv} {v v' : Value} (M : MvsOk hp0 src n0 m) (h : mvAll src n0 m v = some (v', m')) : Moved hp0 src n0 m m' (blkV v) ∧ v' = renV (rho n0 m'.mp) v := by
 rcases isTup v with ⟨vs, rfl⟩ | hv
 ·have h : mvWrap (fun l => .tuple l.toArray) (mvParts src n0 vs.toList m) = some (v', m') := h
  cases hm : mvParts src n0 vs.toList m with
  | none => rw [hm] at h; cases h
  | some p =>
   obtain ⟨ws, m1⟩ := p
   rw [hm] at h
   injection h with h; injection h with h1 h2
   obtain ⟨a1, a2⟩ := mvParts_rn M hm
   subst h1 h2
   exact ⟨a1, by rw [a2]; rfl⟩
 ·rw [(notTup hv).2.2] at h
  rw [(notTup hv).1, (notTup hv).2.1]
  exact mvPart_rn M h
end
theorem renC_id (v : Value) : renC id v = v := by
 have ha : ∀ a : Addr, renA id a = a := fun a => by
  obtain ⟨b, o, s⟩ := a
  cases s <;> rfl
 cases v with
 | pointer p => cases p with
  | none => rfl
  | some a => show Value.pointer (some (renA _ a)) = _; rw [ha]
 | slice p n c => cases p with
  | none => rfl
  | some a => show Value.slice (some (renA _ a)) n c = _; rw [ha]
 | _ => rfl
theorem renP_id (v : Value) : renP id v = v := by
 rcases isAgg v with ⟨cs, rfl⟩ | hv
 ·show Value.agg _ = _
  rw [List.map_congr_left (g := id) fun x _ => renC_id x, List.map_id]
 ·rw [(notAgg hv).1]; exact renC_id _
theorem renV_id (v : Value) : renV id v = v := by
 rcases isTup v with ⟨vs, rfl⟩ | hv
 ·show Value.tuple _ = _
  rw [List.map_congr_left (g := id) fun x _ => renP_id x, List.map_id]
 ·rw [(notTup hv).1]; exact renP_id _
theorem clr_gen {h0 h : Hs} (v : Value) (hl : h0.nx ≤ h.lo) (he : Ext h0 h) (hb : ∀ b ∈ blkV v, b < h.nx) :
 ∃ (ρ : Nat → Nat) (h' : Hs), clrK h0 v h = some (.val (renV ρ v) h') ∧ Ext h0 h' ∧ h'.lo = h0.lo ∧ (∀ b, b < h0.nx → ρ b = b) ∧
  (∀ b ∈ blkV v, h0.nx ≤ b → h0.nx ≤ ρ b ∧ ρ b < h'.nx ∧ h'.hp.get (ρ b) = h.hp.get b) ∧ (∀ b ∈ blkV v, ∀ b' ∈ blkV v, h0.nx ≤ b → h0.nx ≤ b' → ρ b = ρ b' → b = b') := by
 have e1 : clrK h0 v h = clear2 h0 v h (mvAll h.hp h0.nx ⟨h0.hp, h0.nx, []⟩ v) := by
  rw [clrK_eq, show Nat.blt h.lo h0.nx = false from by rw [blt_eq]; simpa using hl]; rfl
 rw [e1]
 have M0 : MvsOk h0.hp h.hp h0.nx ⟨h0.hp, h0.nx, []⟩ := ⟨Nat.le_refl _, fun _ _ => rfl, (fun k x hk => by cases hk), (fun k k' x hk => by cases hk)⟩
 cases hm : mvAll h.hp h0.nx ⟨h0.hp, h0.nx, []⟩ v with
 | none =>
  refine ⟨id, ⟨h.hp, h.nx, h0.lo⟩, by rw [renV_id]; rfl, ⟨he.1, fun b hb => he.2 b hb⟩, rfl, fun _ _ => rfl, fun b hv hn => ⟨hn, hb b hv, rfl⟩, fun b _ b' _ _ _ e => e⟩
 | some p =>
  obtain ⟨v', m'⟩ := p
  obtain ⟨a1, a2⟩ := mvAll_rn M0 hm
  have hr : ∀ b, h0.nx ≤ b → (lookN b m'.mp).isSome → lookN b m'.mp = some (rho h0.nx m'.mp b) := fun b hn hs => by
   obtain ⟨x, hx⟩ := Option.isSome_iff_exists.1 hs
   unfold rho
   rw [show Nat.blt b h0.nx = false from by rw [blt_eq]; simpa using hn, hx]
  refine ⟨rho h0.nx m'.mp, ⟨m'.hp, m'.nx, h0.lo⟩, by rw [a2]; rfl, ⟨a1.ok.nx, fun b hb => a1.ok.old b hb⟩, rfl, fun b hn => ?_, fun b hv hn => ?_, fun b hv b' hv' hn hn' e => ?_⟩
  ·unfold rho
   rw [show Nat.blt b h0.nx = true from by rw [blt_eq]; simpa using hn]
  ·exact a1.ok.at_ b _ (hr b hn (a1.has b hv hn))
  ·exact a1.ok.inj b b' _ (hr b hn (a1.has b hv hn)) (by rw [e]; exact hr b' hn' (a1.has b' hv' hn'))
def Same (h h' : Hs) : Prop := Ext h h' ∧ h'.lo = h.lo
def New (h h' : Hs) (t : Th) : Prop := Same h h' ∧ t.body h' ∧ ∀ b, t.id = some b → h.nx ≤ b ∧ b < h'.nx
theorem Same.refl (h : Hs) : Same h h := ⟨Ext.refl h, rfl⟩
theorem Sto.same {h0 : Hs} {S : List Nat} {h h' : Hs} {m : List Th} (H : Sto h0 S h m) (n : Same h h') : Sto h0 S h' m := H.ext n.1 (fun x h1 _ => by rw [n.2]; exact h1) (by rw [n.2]; exact Nat.le_refl _)
theorem Sto.call {h0 : Hs} {S : List Nat} {h h' : Hs} {m : List Th} {t : Th} (H : Sto h0 S h m) (n : New h h' t) : Sto h0 S h' (t :: m) := H.new n.1.1 (fun x h1 _ => by rw [n.1.2]; exact h1) (by rw [n.1.2]; exact Nat.le_refl _) t n.2.1 n.2.2
def Rd (h : Hs) (v : Value) (u : Nat) (L : List (List Value)) : Prop := RdSl h v u L ∧ ∀ b, Th.id (.rsl v u L) = some b → b < h.nx
theorem Sto.rd (k : Nat) {h0 : Hs} {S : List Nat} {h : Hs} {m : List Th} {v : Value} {u : Nat} {L : List (List Value)} (H : Sto h0 S h m) (hk : m[k]? = some (.rsl v u L)) : Rd h v u L :=
 ⟨H.ok _ (List.mem_of_getElem? hk), fun b hb => (H.ids _ (List.mem_of_getElem? hk) b hb).1⟩
theorem Rd.lo {h : Hs} {v : Value} {u : Nat} {L : List (List Value)} (r : Rd h v u L) (a : Nat) : Rd ⟨h.hp, h.nx, a⟩ v u L := r
theorem Sto.enter1 {h : Hs} {v : Value} {u : Nat} {L : List (List Value)} (r : Rd h v u L) : Sto h [] ⟨h.hp, h.nx, h.nx⟩ [.rsl v u L] :=
 Sto.enterR h _ fun t ht => by
  have : t = .rsl v u L := by simpa using ht
  subst this
  exact ⟨rfl, r.1, r.2⟩
theorem Sto.enter2 {h : Hs} {v v2 : Value} {u u2 : Nat} {L L2 : List (List Value)} (r : Rd h v u L) (r2 : Rd h v2 u2 L2) : Sto h [] ⟨h.hp, h.nx, h.nx⟩ [.rsl v u L, .rsl v2 u2 L2] :=
 Sto.enterR h _ fun t ht => by
  rcases List.mem_cons.1 ht with rfl | ht
  ·exact ⟨rfl, r.1, r.2⟩
  ·have : t = .rsl v2 u2 L2 := by simpa using ht
   subst this
   exact ⟨rfl, r2.1, r2.2⟩
theorem Sto.ext0 {h0 h : Hs} {m : List Th} (H : Sto h0 [] h m) : Ext h0 h := ⟨H.nx, fun id hid => H.fr id hid (fun e => by cases e)⟩
theorem Sto.lo0 {h0 h : Hs} {m : List Th} (H : Sto h0 [] h m) : h0.nx ≤ h.lo := H.lo _ (Nat.le_refl _) fun s hs => by cases hs
variable {Q : Value → Hs → Prop}
def flatP : Value → Bool
 | .agg cs => flatL cs.toList
 | v => flat1 v
def flatV : Value → Bool
 | .tuple vs => vs.toList.all flatP
 | v => flatP v
theorem mvPart_flatP {src : Tr Blk} {n0 : Nat} {m : Mv} {v : Value} (hv : flatP v = true) : mvPart src n0 m v = some (v, m) := by
 rcases isAgg v with ⟨cs, rfl⟩ | hn
 ·show mvWrap (fun l => .agg l.toArray) (mvCells src n0 cs.toList m) = _
  rw [mvCells_flat hv]; rfl
 ·rw [(notAgg hn).2.2]
  refine mvCell_flat ?_
  cases v with
  | agg cs => exact absurd rfl (hn cs)
  | _ => exact hv
theorem mvParts_flatP {src : Tr Blk} {n0 : Nat} {m : Mv} : ∀ {vs : List Value}, vs.all flatP = true → mvParts src n0 vs m = some (vs, m) := by
 intro vs
 induction vs with
 | nil => intro _; rfl
 | cons v vs ih =>
  intro h
  rw [List.all_cons, Bool.and_eq_true] at h
  show mvCons (mvParts src n0 vs) (mvPart src n0 m v) = _
  rw [mvPart_flatP h.1]
  show (match mvParts src n0 vs m with | none => none | some q => some (v :: q.1, q.2)) = _
  rw [ih h.2]
theorem w_clr {h0 h : Hs} {m : List Th} {v : Value} (H : Sto h0 [] h m) (hv : flatV v = true) (q : Q v h0) : WP (clrK h0 v h) Q := by
 have e1 : clrK h0 v h = clear2 h0 v h (mvAll h.hp h0.nx ⟨h0.hp, h0.nx, []⟩ v) := by
  rw [clrK_eq, show Nat.blt h.lo h0.nx = false from by rw [blt_eq]; simpa using H.lo0]; rfl
 have e2 : mvAll h.hp h0.nx ⟨h0.hp, h0.nx, []⟩ v = some (v, ⟨h0.hp, h0.nx, []⟩) := by
  rcases isTup v with ⟨vs, rfl⟩ | hn
  ·show mvWrap (fun l => .tuple l.toArray) (mvParts h.hp h0.nx vs.toList _) = _
   rw [mvParts_flatP hv]; rfl
  ·rw [(notTup hn).2.2]
   refine mvPart_flatP ?_
   cases v with
   | tuple cs => exact absurd rfl (hn cs)
   | _ => exact hv
 rw [e1, e2]
 exact ⟨v, h0, rfl, q⟩
theorem osl_ren {h0 h h' : Hs} {v : Value} {e u n : Nat} {fl : Bool} {L : List Value} {ρ : Nat → Nat} (o : OwnSl h v e u fl n L) (hi : ∀ b, vId v = some b → h0.nx ≤ b) (hr : ∀ b, vId v = some b → h0.nx ≤ ρ b ∧ ρ b < h'.nx ∧ h'.hp.get (ρ b) = h.hp.get b) :
 OwnSl h' (renC ρ v) e u fl n L ∧ ∀ b, vId (renC ρ v) = some b → h0.nx ≤ b ∧ b < h'.nx := by
 obtain ⟨hl, o⟩ := o
 rcases o with ⟨rfl, b⟩ | ⟨id, c, cs, sz, f, rfl, a0, a, b, d, g⟩
 ·exact ⟨⟨hl, .inl ⟨rfl, b⟩⟩, fun b hb => by cases hb⟩
 ·obtain ⟨r1, r2, r3⟩ := hr id rfl
  refine ⟨⟨hl,   .inr ⟨ρ id, c, cs, sz, f, rfl, a0, by rw [r3]; exact a, b, d, g⟩⟩, fun b hb => ?_⟩
  have : ρ id = b := by injection hb
  subst this
  exact ⟨r1, r2⟩
theorem vId_blk {v : Value} {b : Nat} (h : vId v = some b) : b ∈ blkC v := by
 cases v with
 | slice p n c => cases p with
  | none => cases h
  | some a =>
   obtain ⟨x, o, s⟩ := a
   cases s with
   | none => have : x = b := by injection h
             subst this; simp [blkC, blkA]
   | some _ => cases h
 | _ => cases h
theorem w_clrO (k : Nat) {h0 h : Hs} {m : List Th} {v : Value} {e u n : Nat} {fl : Bool} {L : List Value} (H : Sto h0 [] h m) (hk : m[k]? = some (.osl v e u fl n L)) (q : ∀ v' h', New h0 h' (.osl v' e u fl n L) → Q v' h') : WP (clrK h0 v h) Q := by
 have hid := H.ids _ (List.mem_of_getElem? hk)
 have o := H.ok _ (List.mem_of_getElem? hk)
 have fm : blkV v = (match vId v with | some b => [b] | none => []) ∧ ∀ ρ, renV ρ v = renC ρ v := by
  rcases o.2 with ⟨rfl, _⟩ | ⟨id, c, cs, sz, f, rfl, _⟩ <;> exact ⟨rfl, fun _ => rfl⟩
 have hb' : ∀ b ∈ blkV v, vId v = some b := fun b hb => by
  rw [fm.1] at hb
  split at hb
  ·rename_i x hx; rw [hx]; simp at hb; rw [hb]
  ·cases hb
 have hn : ∀ b, vId v = some b → h0.nx ≤ b := fun b hb => by
  rcases (hid b hb).2 rfl with h1 | h1
  ·exact h1
  ·cases h1
 obtain ⟨ρ, h', e1, e2, e3, e4, e5, _⟩ := clr_gen v H.lo0 H.ext0 (fun b hb => (hid b (hb' b hb)).1)
 rw [e1, fm.2]
 obtain ⟨r1, r2⟩ := osl_ren (h0 := h0) (h' := h') (ρ := ρ) o hn (fun b hb => e5 b (by rw [fm.1, hb]; simp) (hn b hb))
 exact ⟨_, h', rfl, q _ _ ⟨⟨e2, e3⟩, r1, r2⟩⟩
end Go.Gev
namespace Go.Gev
variable {Q : Value → Hs → Prop} {h0 : Hs} {S : List Nat} {h : Hs} {m : List Th}
theorem w_build {z : List Value} {parts : List (Nat × Nat × GX)} {en : En} {cs : List Value} {K : KV} (e : fillL en parts z = some cs) (w : WP (K (.agg cs.toArray) h) Q) : WP (after K (oBuild z parts en h)) Q := by
 have : oBuild z parts en h = some (.agg cs.toArray, h) := by
  unfold oBuild
  rw [e]; rfl
 rw [this]; exact w
theorem w_mkrow {t u len : Nat} {z : List Value} {parts : List (Nat × Nat × GX)} {en : En} {cs : List Value} {K : KV} (H : Sto h0 S h m) (e : fillL en parts (rep z len) = some cs)
 (kk : ∀ h', Sto h0 S h' (.blk h.nx (.row t u true (flatL cs) cs) :: m) → h'.nx = h.nx + 1 → WP (K (.slice (some ⟨h.nx, 0, none⟩) len len) h') Q) : WP (after K (oMkrow t u len z parts en h)) Q := by
 have : oMkrow t u len z parts en h = some (.slice (some ⟨h.nx, 0, none⟩) len len, Gev.newRow h t u cs) := by
  unfold oMkrow
  rw [e]; rfl
 rw [this]; exact kk _ (H.row t u cs) rfl
theorem flatL_rep {z : List Value} (hz : flatL z = true) : ∀ n, flatL (rep z n) = true := by
 have app : ∀ a b : List Value, flatL a = true → flatL b = true → flatL (a ++ b) = true := by
  intro a
  induction a with
  | nil => intro b _ hb; exact hb
  | cons v a ih =>
   intro b ha hb
   have ha : (match flat1 v with | true => flatL a | false => false) = true := ha
   show (match flat1 v with | true => flatL (a ++ b) | false => false) = true
   cases hv : flat1 v with
   | false => rw [hv] at ha; cases ha
   | true => rw [hv] at ha; exact ih b ha hb
 intro n
 induction n with
 | zero => rfl
 | succ n ih => exact app z _ hz ih
theorem w_mkslice {t u b n : Nat} {z : List Value} {k1 k2 : IntKind} {K : KV} (H : Sto h0 S h m) (hb : b * n ≤ 281474976710656) (hz : flatL z = true)
 (kk : ∀ h', Sto h0 S h' (.blk h.nx (.row t u true true (rep z n)) :: m) → h'.nx = h.nx + 1 → WP (K (.slice (some ⟨h.nx, 0, none⟩) n n) h') Q) : WP (after K (mkslice1 t u b z h (natOf (.int k1 (.ofNat n))) (natOf (.int k2 (.ofNat n))))) Q := by
 have : mkslice1 t u b z h (natOf (.int k1 (.ofNat n))) (natOf (.int k2 (.ofNat n))) = some (.slice (some ⟨h.nx, 0, none⟩) n n, Gev.newRow h t u (rep z n)) := by
  show (match Nat.ble n n with | false => none | true => match Nat.ble (b * n) 281474976710656 with | false => none | true => some (Value.slice (some ⟨h.nx, 0, none⟩) n n, Gev.newRow h t u (rep z n))) = _
  rw [ble_self, Nat.ble_eq_true_of_le hb]
 rw [this]
 have := H.row t u (rep z n)
 rw [flatL_rep hz] at this
 exact kk _ this rfl
theorem app2_own {v : Value} {e u by_ n k : Nat} {fl : Bool} {L news : List Value} (o : OwnSl h v e u fl n L) (hk : news.length = k * u) (hb : (n + k) * by_ ≤ 70368744177664) :
 ∃ v' h', app2 h e u by_ k news v = some (v', h') ∧ OwnSl h' v' e u (fl && flatL news) (n + k) (L ++ news) ∧ h.nx ≤ h'.nx ∧ (∀ b, b < h.nx → vId v ≠ some b → h'.hp.get b = h.hp.get b) ∧
  (∀ x, x ≤ h.lo → x ≤ h.nx → (∀ b, vId v = some b → x ≤ b) → x ≤ h'.lo) ∧ (∀ b, vId v' = some b → h.nx ≤ b ∧ b < h'.nx) ∧ h'.lo ≤ h.lo ∧ (∀ b, vId v = some b → h'.lo ≤ b) := by
 have fit : Nat.ble (Nat.mul (Nat.add n k) by_) 70368744177664 = true := Nat.ble_eq_true_of_le hb
 obtain ⟨hl, o⟩ := o
 rcases o with ⟨rfl, rfl⟩ | ⟨id, c, cs, sz, f, rfl, hn, hg, hf, hsz, hc⟩
 ·have hL : L = [] := List.eq_nil_of_length_eq_zero (by rw [hl, Nat.zero_mul])
  subst hL
  cases k with
  | zero =>
   have hnn : news = [] := List.eq_nil_of_length_eq_zero (by rw [hk, Nat.zero_mul])
   subst hnn
   refine ⟨.slice none 0 0, h, ?_, ⟨by simp, .inl ⟨rfl, rfl⟩⟩, Nat.le_refl _, fun _ _ _ => rfl, fun x h1 _ _ => h1, (fun b hb => by cases hb), Nat.le_refl _, fun b hb => by cases hb⟩
   show (match Nat.ble (Nat.mul (Nat.add 0 0) by_) 70368744177664 with | false => none | true => some (Value.slice none 0 0, h)) = _
   rw [fit]
  | succ k =>
   refine ⟨.slice (some ⟨h.nx, 0, none⟩) (k + 1) (k + 1), Gev.newRow h e u news, ?_, ⟨by simpa using hk, .inr ⟨h.nx, k + 1, ofList news, news.length, flatL news, by rw [Nat.zero_add], by omega, ?_, fun q => ?_, by simp, fun i _ => ?_⟩⟩, Nat.le_succ _, fun b hb _ => ?_, fun x h1 _ _ => h1, fun b hb => ?_, Nat.le_refl _, (fun b hb => by cases hb)⟩
   ·show (match Nat.ble (Nat.mul (Nat.add 0 (k + 1)) by_) 70368744177664 with | false => none | true => some (Value.slice (some ⟨h.nx, 0, none⟩) (Nat.succ k) (Nat.succ k), Gev.newRow h e u news)) = _
    rw [fit]
   ·rw [newRow_get, if_pos rfl]
   ·rw [Bool.and_eq_true] at q; exact q.2
   ·rw [List.nil_append]; exact get_ofList news i
   ·rw [newRow_get, if_neg (by omega)]
   ·have : h.nx = b := by injection hb
    subst this
    exact ⟨Nat.le_refl _, Nat.lt_succ_self _⟩
 ·have ld : loadN cs (Nat.mul n u) 0 [] = some L := by
   have := loadN_get (n * u) 0 cs L [] hl (fun j hj => by rw [Nat.zero_add]; exact hc j (by omega))
   simpa using this
  have hmk : ∀ (c' : Tr Value) (sz' : Nat), (∀ i, i < (L ++ news).length → c'.get i = (L ++ news)[i]?) → (L ++ news).length ≤ sz' →
   ∃ v' h', some (Value.slice (some ⟨h.nx, 0, none⟩) (Nat.add n k) (Nat.add n k), (⟨(h.hp.set id none).set h.nx (some (.row c' sz' e u true (andB f (flatL news)))), Nat.succ h.nx, minN h.lo id⟩ : Hs)) = some (v', h') ∧ OwnSl h' v' e u (fl && flatL news) (n + k) (L ++ news) ∧ h.nx ≤ h'.nx ∧ (∀ b, b < h.nx → vId (.slice (some ⟨id, 0, none⟩) n c) ≠ some b → h'.hp.get b = h.hp.get b) ∧
    (∀ x, x ≤ h.lo → x ≤ h.nx → (∀ b, vId (.slice (some ⟨id, 0, none⟩) n c) = some b → x ≤ b) → x ≤ h'.lo) ∧ (∀ b, vId v' = some b → h.nx ≤ b ∧ b < h'.nx) ∧ h'.lo ≤ h.lo ∧ (∀ b, vId (.slice (some ⟨id, 0, none⟩) n c) = some b → h'.lo ≤ b) := fun c' sz' h1 h2 => by
   refine ⟨_, _, rfl, ⟨by rw [List.length_append, hl, hk, Nat.add_mul], .inr ⟨h.nx, n + k, c', sz', andB f (flatL news), rfl, Nat.le_refl _, ?_, fun q => ?_, h2, h1⟩⟩, Nat.le_succ _, fun b hb hv => ?_, fun x g1 _ g2 => ?_, fun b hb => ?_, minN_le_left _ _, fun b hb => ?_⟩
   ·show ((h.hp.set id none).set h.nx _).get h.nx = _
    rw [Tr.get_set, if_pos rfl]
   ·rw [Bool.and_eq_true] at q
    rw [hf q.1, q.2]; rfl
   ·show ((h.hp.set id none).set h.nx _).get b = _
    rw [Tr.get_set, if_neg (by omega), Tr.get_set, if_neg]
    intro q; exact hv (by rw [q]; rfl)
   ·show x ≤ minN h.lo id
    rw [minN_eq]
    have := g2 id rfl
    omega
   ·have : h.nx = b := by injection hb
    subst this
    exact ⟨Nat.le_refl _, Nat.lt_succ_self _⟩
   ·have : id = b := by injection hb
    subst this; exact minN_le_right _ _
  have e1 : app2 h e u by_ k news (.slice (some ⟨id, 0, none⟩) n c) = app4 h e u id n k cs sz f news (Nat.beq (Nat.mul n u) sz) (some L) := by
   show (match Nat.ble (Nat.mul (Nat.add n k) by_) 70368744177664 with | false => none | true => app3 h e u id n k news (h.hp.get id)) = _
   rw [fit, hg]
   show (match Nat.beq u u with | false => none | true => match Nat.beq e e with | false => none | true => app4 h e u id n k cs sz f news (frcB cs (Nat.beq (Nat.mul n u) sz)) (loadN cs (Nat.mul n u) 0 [])) = _
   rw [Nat.beq_refl, Nat.beq_refl, frcB_eq, ld]
  rw [e1]
  have lL : (L ++ news).length = L.length + news.length := List.length_append
  cases hq : Nat.beq (Nat.mul n u) sz with
  | true =>
   have hsz' : L.length = sz := by rw [hl]; exact beq_iff.1 hq
   refine hmk _ _ (fun i hi => ?_) (by rw [lL, hsz']; exact Nat.le_refl _)
   rw [get_ofListFrom]
   by_cases c1 : sz ≤ i ∧ i < sz + news.length
   ·rw [if_pos c1, List.getElem?_append_right (by omega), hsz']
   ·rw [if_neg c1, List.getElem?_append_left (by omega)]
    exact hc i (by omega)
  | false =>
   exact hmk _ _ (fun i _ => get_ofList _ i) (by rw [lL]; exact Nat.le_refl _)
theorem Sto.app {v v' : Value} {k e u n n' : Nat} {fl fl' : Bool} {L L' : List Value} {h' : Hs} (H : Sto h0 S h m) (hk : m[k]? = some (.osl v e u fl n L)) (o : OwnSl h' v' e u fl' n' L') (hn : h.nx ≤ h'.nx) (hg : ∀ b, b < h.nx → vId v ≠ some b → h'.hp.get b = h.hp.get b)
 (hlo : ∀ x, x ≤ h.lo → x ≤ h.nx → (∀ b, vId v = some b → x ≤ b) → x ≤ h'.lo) (hid : ∀ b, vId v' = some b → h.nx ≤ b ∧ b < h'.nx) (hle : h'.lo ≤ h.lo) (hch : ∀ b, vId v = some b → h'.lo ≤ b) : Sto h0 S h' (m.set k (.osl v' e u fl' n' L')) :=
 H.upd hk rfl hn hg hlo hle (fun b hb => .inl (hch b hb)) o fun b hb => ⟨(hid b hb).2, .inr (hid b hb).1⟩
theorem flatten_get {u : Nat} : ∀ {L : List (List Value)}, (∀ l ∈ L, l.length = u) → ∀ i r, r < u → L.flatten[i * u + r]? = (L[i]?).bind (fun l => l[r]?) := by
 intro L
 induction L with
 | nil => intro _ i r _; simp
 | cons x L ih =>
  intro hl i r hr
  have hx := hl x List.mem_cons_self
  cases i with
  | zero =>
   rw [Nat.zero_mul, Nat.zero_add, List.flatten_cons, List.getElem?_append_left (by omega)]; rfl
  | succ i =>
   rw [List.flatten_cons, List.getElem?_append_right (by rw [hx, Nat.succ_mul]; omega), hx, show (i + 1) * u + r - u = i * u + r from by rw [Nat.succ_mul]; omega, ih (fun l q => hl l (List.mem_cons_of_mem _ q)) i r hr]
   rfl
theorem flatten_len {u : Nat} : ∀ {L : List (List Value)}, (∀ l ∈ L, l.length = u) → L.flatten.length = L.length * u := by
 intro L
 induction L with
 | nil => intro _; simp
 | cons x L ih =>
  intro hl
  rw [List.flatten_cons, List.length_append, hl x List.mem_cons_self, ih fun l q => hl l (List.mem_cons_of_mem _ q), List.length_cons, Nat.succ_mul, Nat.add_comm]
theorem RdSl.row {v : Value} {u : Nat} {L : List (List Value)} (r : RdSl h v u L) (hu : 0 < u) : ∃ a c, v = .slice a L.length c ∧ ∀ n, n ≤ L.length → rowOf h u n a = some (L.take n).flatten := by
 obtain ⟨hl, r⟩ := r
 rcases r with ⟨a, c, rfl, rfl⟩ | ⟨id, o, c, cs, sz, e, u', rw_, f, rfl, _, hb, _, hc⟩
 ·refine ⟨a, c, rfl, fun n hn => ?_⟩
  have : n = 0 := by simpa using hn
  subst this
  cases a <;> rfl
 ·refine ⟨_, c, rfl, fun n hn => ?_⟩
  cases n with
  | zero => rfl
  | succ n =>
   show blkCells (Nat.mul (Nat.succ n) u) o (h.hp.get id) = _
   rw [hb]
   show loadN cs (Nat.mul (Nat.succ n) u) o [] = _
   have ht : ∀ l ∈ L.take (n + 1), l.length = u := fun l hq => hl l (List.mem_of_mem_take hq)
   have hlen : (L.take (n + 1)).flatten.length = (n + 1) * u := by rw [flatten_len ht, List.length_take]; congr 1; omega
   have := loadN_get ((n + 1) * u) o cs _ [] hlen (fun j hj => by
    have hd : j = j / u * u + j % u := by rw [Nat.mul_comm]; exact (Nat.div_add_mod j u).symm
    have hm := Nat.mod_lt j hu
    have hq : j / u < n + 1 := Nat.div_lt_of_lt_mul (by rw [Nat.mul_comm]; exact hj)
    have hq2 : j / u < L.length := by omega
    have e := flatten_get ht (j / u) (j % u) hm
    rw [← hd, List.getElem?_take_of_lt hq, List.getElem?_eq_getElem hq2] at e
    rw [e]
    have := hc (j / u) (j % u) _ (List.getElem?_eq_getElem hq2) hm
    show _ = L[j / u][j % u]?
    rw [← this]
    congr 1; omega)
   simpa using this
theorem w_append (k j : Nat) {v v2 : Value} {e u by_ n : Nat} {fl : Bool} {L : List Value} {L2 : List (List Value)} {K : KV} (H : Sto h0 S h m) (hk : m[k]? = some (.osl v e u fl n L)) (hj : m[j]? = some (.rsl v2 u L2)) (hu : 0 < u) (h1 : allOne L2.flatten = true) (hb : (n + L2.length) * by_ ≤ 70368744177664)
 (kk : ∀ v' h', Sto h0 S h' (m.set k (.osl v' e u (fl && flatL L2.flatten) (n + L2.length) (L ++ L2.flatten))) → h.nx ≤ h'.nx → WP (K v' h') Q) : WP (after K (app0 e u by_ h v v2)) Q := by
 have r := H.ok _ (List.mem_of_getElem? hj)
 obtain ⟨a, c, rfl, hr⟩ := RdSl.row r hu
 have hr := hr _ (Nat.le_refl _)
 rw [List.take_length] at hr
 obtain ⟨v', h', a1, a2, a3, a4, a5, a6, a7, a8⟩ := app2_own (by_ := by_) (H.ok _ (List.mem_of_getElem? hk)) (flatten_len r.1) hb
 have : app0 e u by_ h v (.slice a L2.length c) = some (v', h') := by
  show app1 h e u by_ L2.length v (rowOf h u L2.length a) = _
  rw [hr]
  show (match allOne L2.flatten with | true => app2 h e u by_ L2.length L2.flatten v | false => none) = _
  rw [h1]; exact a1
 rw [this]
 exact kk v' h' (H.app hk a2 a3 a4 a5 a6 a7 a8) a3
theorem top1_ok {a b : Nat} {k : IntKind} (hab : a ≤ b) : top1 b (natOf (.int k (.ofNat a))) = some a := by
 show (match Nat.ble a b with | true => some a | false => none) = _
 rw [Nat.ble_eq_true_of_le hab]
theorem w_sliceR (k : Nat) {v : Value} {u l hh : Nat} {L : List (List Value)} {lo hi : Option GX} {en : En} {K : KV} (H : Sto h0 S h m) (hk : m[k]? = some (.rsl v u L)) (hlo : ∀ x, l ≤ x → bnd en 0 x lo = some l) (hhi : ∀ c, L.length ≤ c → bnd en L.length c hi = some hh) (h1 : l ≤ hh) (h2 : hh ≤ L.length)
 (kk : ∀ v', Sto h0 S h (.rsl v' u ((L.drop l).take (hh - l)) :: m) → WP (K v' h) Q) : WP (after K (oSlice u (.c v) lo hi none en h)) Q := by
 have r := H.ok _ (List.mem_of_getElem? hk)
 have hids := H.ids _ (List.mem_of_getElem? hk)
 obtain ⟨hl, r⟩ := r
 have len : ((L.drop l).take (hh - l)).length = hh - l := by rw [List.length_take, List.length_drop]; omega
 have unif : ∀ x ∈ (L.drop l).take (hh - l), x.length = u := fun x hx => hl x (List.mem_of_mem_drop (List.mem_of_mem_take hx))
 have done : ∀ v', oSlice u (.c v) lo hi none en h = some (v', h) → RdSl h v' u ((L.drop l).take (hh - l)) → (∀ b, Th.id (.rsl v' u ((L.drop l).take (hh - l))) = some b → Th.id (.rsl v u L) = some b) → WP (after K (oSlice u (.c v) lo hi none en h)) Q := fun v' e1 e2 e3 => by
  rw [e1]
  refine kk v' (H.cons _ e2 (fun b hb => ⟨(hids b (e3 b hb)).1, fun q => by cases q⟩) fun s hs he b hb hs' => ?_)
  rcases he with he | he
  ·cases he
  ·obtain ⟨j, hj⟩ := List.getElem?_of_mem hs
   refine H.dj j k s _ hj hk (fun q => ?_) he b hs' (e3 b hb)
   subst q
   rw [hk] at hj
   injection hj with hj
   subst hj
   cases he
 rcases r with ⟨a, c, rfl, rfl⟩ | ⟨id, o, c, cs, sz, e, u', rw_, f, rfl, hcap, hb, hu', hc⟩
 ·have hz : hh = 0 := by simpa using h2
  have lz : l = 0 := by omega
  subst hz lz
  have e0 : oSlice u (.c (.slice a 0 c)) lo hi none en h = ret1 h (cutA h u 0 0 c a) := by
   show ret1 h (slice2 h u en a 0 lo hi (some c)) = _
   show ret1 h (slice3 h u en a lo c (bnd en 0 c hi)) = _
   rw [show bnd en 0 c hi = some 0 from hhi c (Nat.zero_le _)]
   show ret1 h (match bnd en 0 0 lo with | none => none | some l => cutA h u l 0 c a) = _
   rw [hlo 0 (Nat.le_refl _)]
  have fin : ∀ v', cutA h u 0 0 c a = some v' → (∃ a' c', v' = .slice a' 0 c') → WP (after K (oSlice u (.c (.slice a 0 c)) lo hi none en h)) Q := fun v' q1 q2 => by
   obtain ⟨a', c', rfl⟩ := q2
   refine done _ (by rw [e0, q1]; rfl) ⟨unif, .inl ⟨a', c', rfl, by simp⟩⟩ (fun b hb => by simp [Th.id] at hb)
  cases a with
  | none => exact fin _ rfl ⟨_, _, rfl⟩
  | some a =>
   obtain ⟨ab, ao, as⟩ := a
   cases as with
   | some s => exact fin _ rfl ⟨_, _, rfl⟩
   | none => exact fin _ rfl ⟨_, _, rfl⟩
 ·have e0 : oSlice u (.c (.slice (some ⟨id, o, none⟩) L.length c)) lo hi none en h = ret1 h (cutB h u l hh c ⟨id, o, none⟩) := by
   show ret1 h (slice3 h u en (some ⟨id, o, none⟩) lo c (bnd en L.length c hi)) = _
   rw [hhi c hcap]
   show ret1 h (match bnd en 0 hh lo with | none => none | some l => cutA h u l hh c (some ⟨id, o, none⟩)) = _
   rw [hlo hh h1]
   rfl
  have e1 : cutB h u l hh c ⟨id, o, none⟩ = (match Nat.beq l 0 with | true => some (.slice (some ⟨id, o, none⟩) hh c) | false => match Nat.beq hh l with | true => some (.slice (some ⟨id, o, some 0⟩) 0 0) | false => match unitOk u (h.hp.get id) with | true => some (.slice (some ⟨id, Nat.add o (Nat.mul l u), none⟩) (Nat.sub hh l) (Nat.sub c l)) | false => none) := rfl
  have idOf : Th.id (.rsl (.slice (some ⟨id, o, none⟩) L.length c) u L) = some id ∨ L = [] := by
   cases L with
   | nil => exact .inr rfl
   | cons x L => exact .inl rfl
  cases hz : Nat.beq l 0 with
  | true =>
   have lz : l = 0 := beq_iff.1 hz
   subst lz
   refine done (.slice (some ⟨id, o, none⟩) hh c) (by rw [e0, e1]; rfl) ⟨unif, .inr ⟨id, o, c, cs, sz, e, u', rw_, f, by rw [len, Nat.sub_zero], by rw [len]; omega, hb, hu', fun i j x hx hj => ?_⟩⟩ (fun b hb' => ?_)
   ·refine hc i j x ?_ hj
    have : i < hh := by have := (List.getElem?_eq_some_iff.1 hx).1; rw [len] at this; omega
    rw [Nat.sub_zero, List.drop_zero, List.getElem?_take_of_lt this] at hx
    exact hx
   ·rcases idOf with q | q
    ·rw [q, ← hb']
     cases hx : (L.drop 0).take (hh - 0) with
     | nil => rw [hx] at hb'; simp [Th.id] at hb'
     | cons x y => rfl
    ·subst q; simp [Th.id] at hb'
  | false =>
   have lz : l ≠ 0 := beq_false.1 hz
   cases hq : Nat.beq hh l with
   | true =>
    have hl' : hh = l := beq_iff.1 hq
    refine done (.slice (some ⟨id, o, some 0⟩) 0 0) (by rw [e0, e1, hz, hq]; rfl) ⟨unif, .inl ⟨_, _, rfl, List.eq_nil_of_length_eq_zero (by rw [len]; omega)⟩⟩ (fun b hb' => ?_)
    rw [show (L.drop l).take (hh - l) = [] from List.eq_nil_of_length_eq_zero (by rw [len]; omega)] at hb'
    simp [Th.id] at hb'
   | false =>
    have hl' : hh ≠ l := beq_false.1 hq
    have uk : unitOk u (h.hp.get id) = true := by
     rw [hb]
     show orB (Nat.beq u' 0) (Nat.beq u' u) = true
     rcases hu' with q | q
     ·rw [q]; rfl
     ·rw [q, Nat.beq_refl]; cases Nat.beq u 0 <;> rfl
    refine done (.slice (some ⟨id, o + l * u, none⟩) (hh - l) (c - l)) (by rw [e0, e1, hz, hq, uk]; rfl) ⟨unif, .inr ⟨id, o + l * u, c - l, cs, sz, e, u', rw_, f, by rw [len], by rw [len]; omega, hb, hu', fun i j x hx hj => ?_⟩⟩ (fun b hb' => ?_)
    ·have hi' : i < hh - l := by have := (List.getElem?_eq_some_iff.1 hx).1; rw [len] at this; exact this
     rw [List.getElem?_take_of_lt hi', List.getElem?_drop] at hx
     have := hc (l + i) j x hx hj
     rw [← this]
     congr 1
     rw [Nat.add_mul]; omega
    ·rcases idOf with q | q
     ·rw [q, ← hb']
      cases hx : (L.drop l).take (hh - l) with
      | nil => rw [hx] at hb'; simp [Th.id] at hb'
      | cons x y => rfl
     ·subst q; simp at h2; omega
theorem w_bar {u : Hs} {v : Value} {F : KV} (hn : h.nx ≤ u.nx) (w : WP (F v u) Q) : WP (dPut F v (dNext h u .bar) (andB (dFit h u .bar) (Nat.ble 0 u.lo))) Q := by rw [dBar hn]; exact w
theorem w_light {u : Hs} {t : Th} {v : Value} {F : KV} (n : New ⟨h.hp, h.nx, h.nx⟩ u t) (kk : ∀ h', New h h' t → WP (F v h') Q) : WP (dPut F v (dNext h u .light) (andB (dFit h u .light) (Nat.ble 0 u.lo))) Q := by
 have n1 : h.nx ≤ u.nx := n.1.1.1
 have n2 : u.lo = h.nx := n.1.2
 have h1 : dFit h u .light = true := by
  show andB (Nat.ble h.nx u.nx) (Nat.ble h.nx u.lo) = true
  rw [Nat.ble_eq_true_of_le n1, n2, ble_self]; rfl
 rw [h1, ble_zero]
 have hg : ∀ id, (dNext h u .light).hp.get id = if h.nx ≤ id ∧ id < u.nx then u.hp.get id else h.hp.get id := fun id => by
  show (backN u.hp (Nat.sub u.nx h.nx) h.nx h.hp).get id = _
  rw [backN_get, show Nat.sub u.nx h.nx = u.nx - h.nx from rfl, show h.nx + (u.nx - h.nx) = u.nx from by omega]
 refine kk (dNext h u .light) ⟨⟨⟨n1, fun id hid => by rw [hg, if_neg (by omega)]⟩, rfl⟩, Th.congr n.2.1 fun b hb => ?_, n.2.2⟩
 have := n.2.2 b hb
 rw [hg, if_pos this]
theorem w_light0 {v : Value} {F : KV} (w : WP (F v h) Q) : WP (dPut F v (dNext h ⟨h.hp, h.nx, h.nx⟩ .light) (andB (dFit h ⟨h.hp, h.nx, h.nx⟩ .light) (Nat.ble 0 h.nx))) Q := by
 have h1 : dFit h ⟨h.hp, h.nx, h.nx⟩ .light = true := by
  show andB (Nat.ble h.nx h.nx) (Nat.ble h.nx h.nx) = true
  rw [ble_self]; rfl
 rw [h1, ble_zero]
 have : dNext h ⟨h.hp, h.nx, h.nx⟩ .light = h := by
  show (⟨backN h.hp (Nat.sub h.nx h.nx) h.nx h.hp, h.nx, h.lo⟩ : Hs) = h
  rw [show Nat.sub h.nx h.nx = 0 from Nat.sub_self _]; rfl
 rw [this]; exact w
theorem w_blind {v : Value} {F : KV} {hp : Tr Blk} (w : WP (F v h) Q) : WP (dPut F v (dNext h ⟨hp, h.nx, h.nx⟩ .blind) (andB (dFit h ⟨hp, h.nx, h.nx⟩ .blind) (Nat.ble 0 h.nx))) Q := by rw [dBlind]; exact w
abbrev L1 := Value → Hs → An
abbrev L2 := Value → Value → Hs → An
abbrev L3 := Value → Value → Value → Hs → An
abbrev L4 := Value → Value → Value → Value → Hs → An
abbrev L5 := Value → Value → Value → Value → Value → Hs → An
abbrev L6 := Value → Value → Value → Value → Value → Value → Hs → An
abbrev L7 := Value → Value → Value → Value → Value → Value → Value → Hs → An
abbrev L9 := Value → Value → Value → Value → Value → Value → Value → Value → Value → Hs → An
abbrev L11 := Value → Value → Value → Value → Value → Value → Value → Value → Value → Value → Value → Hs → An
theorem w_callB {R : RnK} {f : FuncId} {args : List Value} {u : Hs} {p : Prop} [Decidable p] {K : KV} (c : R f args u = some (.val (.bool (decide p)) u)) (ht : p → WP (K (.bool true) u) Q) (hf : ¬ p → WP (K (.bool false) u) Q) : WP (kCall R f args u K) Q := by
 refine w_callE c ?_
 by_cases q : p
 ·rw [decide_eq_true q]; exact ht q
 ·rw [decide_eq_false q]; exact hf q
theorem w_clrB {v : Bool} {h' : Hs} {p : Prop} [Decidable p] (H : Sto h [] h' m) (e : v = true ↔ p) : WP (clrK h (.bool v) h') (fun v' h'' => v' = .bool (decide p) ∧ h'' = h) := by
 refine w_clr H rfl ⟨?_, rfl⟩
 congr 1
 cases v with
 | true => exact (decide_eq_true (e.1 rfl)).symm
 | false => exact (decide_eq_false fun q => by cases e.2 q).symm
theorem w_boxA {e : Nat} {cs : List Value} {en : En} {K : KV} (H : Sto h0 S h m) (k : ∀ h', Sto h0 S h' (.blk h.nx (.row e 0 true (flatL cs) cs) :: m) → h'.nx = h.nx + 1 → WP (K (.pointer (some ⟨h.nx, 0, none⟩)) h') Q) :
 WP (after K (oBox e (.c (.agg cs.toArray)) en h)) Q := w_box H rfl k
theorem w_boxV {e : Nat} {x : Value} {en : En} {K : KV} (H : Sto h0 S h m) (hx : isDunno x = false) (hc : cellsL x = [x]) (k : ∀ h', Sto h0 S h' (.blk h.nx (.row e 0 true (flatL [x]) [x]) :: m) → h'.nx = h.nx + 1 → WP (K (.pointer (some ⟨h.nx, 0, none⟩)) h') Q) :
 WP (after K (oBox e (.c x) en h)) Q := w_box H hx (by rw [hc]; exact k)
theorem w_loadsF (k : Nat) {hh : Hs} {b n e u : Nat} {rw_ fl : Bool} {L : List Value} {K : Value → An} (H : Sto h0 S h m) (hk : m[k]? = some (.blk b (.row e u rw_ fl L))) (hp : hh.hp.get b = h.hp.get b) (hn : L.length = n) (w : WP (K (.agg L.toArray)) Q) :
 WP (kLoads n (.pointer (some ⟨b, 0, none⟩)) hh K) Q := w_loads k H hk hp (by rw [List.drop_zero, ← hn, List.take_length]) hn w
def HidOk (b : Nat) : List (Option (Nat × Nat)) → Prop
 | [] => True
 | none :: l => HidOk b l
 | some p :: l => b < p.1 ∧ HidOk b l
theorem hideN_below : ∀ (n i : Nat) (t : Tr Blk) (b : Nat), b < i → (hideN n i t).get b = t.get b := by
 intro n
 induction n with
 | zero => intro i t b _; rfl
 | succ n ih =>
  intro i t b hb
  rw [hideN, ih _ _ _ (by omega), Tr.get_set, if_neg (by omega)]
theorem hideS_get : ∀ (ps : List (Option (Nat × Nat))) (bs : List Bool) (t : Tr Blk) (b : Nat), HidOk b ps → (hideS bs ps t).get b = t.get b := by
 intro ps
 induction ps with
 | nil => intro bs t b _; cases bs <;> rfl
 | cons p ps ih =>
  intro bs t b hb
  cases p with
  | none => exact ih _ _ _ hb
  | some p =>
   have hb : b < p.1 ∧ HidOk b ps := hb
   cases bs with
   | nil =>
    show (hideN (Nat.sub p.2 p.1) p.1 (hideS [] ps t)).get b = _
    rw [hideN_below _ _ _ _ hb.1]; exact ih _ _ _ hb.2
   | cons c bs =>
    cases c with
    | true => exact ih _ _ _ hb.2
    | false =>
     show (hideN (Nat.sub p.2 p.1) p.1 (hideS bs ps t)).get b = _
     rw [hideN_below _ _ _ _ hb.1]; exact ih _ _ _ hb.2
theorem w_loadD (k : Nat) {lm : List Bool} {hist : List (Option (Nat × Nat))} {b o e u : Nat} {rw_ fl : Bool} {L : List Value} {v : Value} {K : Value → An} (H : Sto h0 S h m) (hk : m[k]? = some (.blk b (.row e u rw_ fl L))) (hv : L[o]? = some v) (hq : b < h.nx → HidOk b hist) (w : WP (K v) Q) :
 WP (kLoad (.pointer (some ⟨b, o, none⟩)) (dHidS .light lm hist h) K) Q :=
 w_load k H hk (hideS_get _ _ _ _ (hq ((H.ids _ (List.mem_of_getElem? hk) b rfl).1))) hv w
theorem w_loadsD (k : Nat) {lm : List Bool} {hist : List (Option (Nat × Nat))} {b n e u : Nat} {rw_ fl : Bool} {L : List Value} {K : Value → An} (H : Sto h0 S h m) (hk : m[k]? = some (.blk b (.row e u rw_ fl L))) (hn : L.length = n) (hq : b < h.nx → HidOk b hist) (w : WP (K (.agg L.toArray)) Q) :
 WP (kLoads n (.pointer (some ⟨b, 0, none⟩)) (dHidS .light lm hist h) K) Q :=
 w_loadsF k H hk (hideS_get _ _ _ _ (hq ((H.ids _ (List.mem_of_getElem? hk) b rfl).1))) hn w
theorem WP.eqn {e : An} {v : Value} {h : Hs} (w : WP e (fun v' h' => v' = v ∧ h' = h)) : e = some (.val v h) := by
 obtain ⟨v', h', e, rfl, rfl⟩ := w
 exact e
end Go.Gev
namespace Go.Gev
variable {Q : Value → Hs → Prop} {h0 : Hs} {S : List Nat} {h : Hs} {m : List Th}
theorem clearUp_clrK (v : Value) : clearUp h0 (some (.val v h)) = clrK h0 v h := (clrK_eq h0 v h).symm
theorem clearUp_pack {vs : List Value} : clearUp h0 (packR h (some vs)) = clrK h0 (packV vs) h := by rw [packR_V, clearUp_clrK]
theorem cellV_blk {k b n e u : Nat} {rw_ fl : Bool} {L : List Value} (H : Sto h0 S h m) (hk : m[k]? = some (.blk b (.row e u rw_ fl L))) (hn : L.length = n) : cellV h n true (addrOf (.pointer (some ⟨b, 0, none⟩))) = some (.agg L.toArray) := by
 obtain ⟨c, f, hb, _, hc⟩ := H.ok _ (List.mem_of_getElem? hk)
 show aggO (blkCells n 0 (h.hp.get b)) = _
 rw [hb]
 show aggO (loadN c n 0 []) = _
 have := loadN_get n 0 c L [] hn (fun j _ => by rw [Nat.zero_add]; exact hc j)
 rw [this]; rfl
theorem w_retC (k : Nat) {b n e u : Nat} {rw_ fl : Bool} {L vs : List Value} {rs : List GRes} (H : Sto h0 S h m) (hk : m[k]? = some (.blk b (.row e u rw_ fl L))) (hn : L.length = n) (hr : resV enE h rs = some vs) (w : WP (clrK h0 (packV (.agg L.toArray :: vs)) h) Q) :
 WP (clearUp h0 (packR h (resV enE h (.cell (.c (.pointer (some ⟨b, 0, none⟩))) n true :: rs)))) Q := by
 have : resV enE h (.cell (.c (.pointer (some ⟨b, 0, none⟩))) n true :: rs) = some (.agg L.toArray :: vs) := by
  show consR (resV enE h rs) (cellV h n true (addrOf (.pointer (some ⟨b, 0, none⟩)))) = _
  rw [hr, cellV_blk H hk hn]; rfl
 rw [this, clearUp_pack]; exact w
theorem w_storeF (k : Nat) {b n e u : Nat} {fl : Bool} {L cs : List Value} {K : KV} (H : Sto h0 S h m) (hk : m[k]? = some (.blk b (.row e u true fl L))) (hn : cs.length = n) (hl : L.length = n) (h0n : 0 < n) (hx : allOne cs = true)
 (kk : ∀ h', Sto h0 S h' (m.set k (.blk b (.row e u true (andB fl (flatL cs)) cs))) → h'.nx = h.nx → WP (K undef' h') Q) : WP (after K (store1 n h (cellsL (.agg cs.toArray)) (addrOf (.pointer (some ⟨b, 0, none⟩))))) Q := by
 refine w_storeN (x := .agg cs.toArray) k H hk hn h0n (by omega) hx fun h' H' e => kk h' ?_ e
 have e : setL L 0 (cellsL (.agg cs.toArray)) = cs := by
  show L.take 0 ++ cs ++ L.drop (0 + cs.length) = cs
  rw [List.take_zero, List.nil_append, List.drop_of_length_le (by omega), List.append_nil]
 rw [e] at H'
 exact H'
theorem w_storeV (k : Nat) {b n e u : Nat} {fl : Bool} {L cs : List Value} {K : KV} (H : Sto h0 S h m) (hk : m[k]? = some (.blk b (.row e u true fl L))) (hn : cs.length = n) (hl : L.length = n) (h0n : 0 < n) (hx : allOne cs = true)
 (kk : ∀ h', Sto h0 S h' (m.set k (.blk b (.row e u true (andB fl (flatL cs)) cs))) → h'.nx = h.nx → WP (K undef' h') Q) : WP (after K (store1 n h cs (addrOf (.pointer (some ⟨b, 0, none⟩))))) Q := w_storeF (cs := cs) k H hk hn hl h0n hx kk
theorem Sto.rowM {t u : Nat} {cs : List Value} (H : Sto h0 S h m) : dFit h (Gev.newRow ⟨.e, h.nx, h.nx⟩ t u cs) .make = true ∧ Sto h0 S (dNext h (Gev.newRow ⟨.e, h.nx, h.nx⟩ t u cs) .make) (.blk h.nx (.row t u true (flatL cs) cs) :: m) := by
 have hg : ∀ id, (dNext h (Gev.newRow ⟨.e, h.nx, h.nx⟩ t u cs) .make).hp.get id = if h.nx ≤ id ∧ id < h.nx + 1 then (Gev.newRow ⟨.e, h.nx, h.nx⟩ t u cs).hp.get id else h.hp.get id := fun id => by
  show (backN _ (Nat.sub (h.nx + 1) h.nx) h.nx h.hp).get id = _
  rw [backN_get, show Nat.sub (h.nx + 1) h.nx = 1 from by show h.nx + 1 - h.nx = 1; omega]
 refine ⟨?_, H.new (h' := dNext h (Gev.newRow ⟨.e, h.nx, h.nx⟩ t u cs) .make) ⟨Nat.le_succ _, fun id hid => by rw [hg, if_neg (by omega)]⟩ (fun x h1 _ => h1) (Nat.le_refl _) _ ?_ (fun b hb => ?_)⟩
 ·show andB (Nat.ble h.nx (h.nx + 1)) (Nat.ble h.nx h.nx) = true
  rw [Nat.ble_eq_true_of_le (Nat.le_succ _), ble_self]; rfl
 ·show Holds ((dNext h (Gev.newRow ⟨.e, h.nx, h.nx⟩ t u cs) .make).hp.get h.nx) (.row t u true (flatL cs) cs)
  rw [hg, if_pos (by omega), newRow_get, if_pos rfl]
  exact ⟨ofList cs, flatL cs, rfl, id, fun i => get_ofList cs i⟩
 ·have : h.nx = b := by injection hb
  subst this
  exact ⟨Nat.le_refl _, Nat.lt_succ_self _⟩
theorem Sto.osl (k : Nat) {b e u n c : Nat} {fl : Bool} {L : List Value} (H : Sto h0 S h m) (hk : m[k]? = some (.blk b (.row e u true fl L))) (hl : L.length = n * u) (hc : n ≤ c) : Sto h0 S h (m.set k (.osl (.slice (some ⟨b, 0, none⟩) n c) e u fl n L)) := by
 refine H.upd hk rfl (Nat.le_refl _) (fun _ _ _ => rfl) (fun _ h1 _ _ => h1) (Nat.le_refl _) (fun _ _ => .inr rfl) ?_ (fun b' hb' => ?_)
 ·obtain ⟨cs, f, hb, hf, hc'⟩ := H.ok _ (List.mem_of_getElem? hk)
  exact ⟨hl, .inr ⟨b, c, cs, L.length, f, rfl, hc, hb, hf, Nat.le_refl _, fun i _ => hc' i⟩⟩
 ·have : b = b' := by injection hb'
  subst this
  exact ⟨(H.ids _ (List.mem_of_getElem? hk) b rfl).1, .inl rfl⟩
def ones (L : List Value) : List (List Value) := L.map fun x => [x]
theorem ones_len (L : List Value) : (ones L).length = L.length := List.length_map _
theorem Sto.rdB (k : Nat) {b e n c : Nat} {rw_ fl : Bool} {L : List Value} (H : Sto h0 S h m) (hk : m[k]? = some (.blk b (.row e 1 rw_ fl L))) (hn : L.length = n) (hc : n ≤ c) : Rd h (.slice (some ⟨b, 0, none⟩) n c) 1 (ones L) := by
 obtain ⟨cs, f, hb, hf, hc'⟩ := H.ok _ (List.mem_of_getElem? hk)
 refine ⟨⟨fun l hl => ?_, .inr ⟨b, 0, c, cs, L.length, e, 1, rw_, f, by rw [ones_len, hn], by rw [ones_len, hn]; exact hc, hb, .inr rfl, fun i j l hi hj => ?_⟩⟩, fun b' hb' => ?_⟩
 ·unfold ones at hl
  rw [List.mem_map] at hl
  obtain ⟨x, _, rfl⟩ := hl
  rfl
 ·have : j = 0 := by omega
  subst this
  unfold ones at hi
  rw [List.getElem?_map] at hi
  rw [hc', show 0 + i * 1 + 0 = i from by omega]
  cases hL : L[i]? with
  | none => rw [hL] at hi; cases hi
  | some x => rw [hL] at hi; injection hi with hi; rw [← hi]; rfl
 ·have : b' = b := by
   cases L with
   | nil => cases hb'
   | cons x L => injection hb' with q; exact q.symm
  subst this
  exact (H.ids _ (List.mem_of_getElem? hk) _ rfl).1
theorem ones_one (L : List Value) : ∀ l ∈ ones L, l.length = 1 := fun l hl => by
 unfold ones at hl
 rw [List.mem_map] at hl
 obtain ⟨x, _, rfl⟩ := hl
 rfl
theorem OwnSl.rd1 {v : Value} {e n : Nat} {fl : Bool} {L : List Value} (o : OwnSl h v e 1 fl n L) : RdSl h v 1 (ones L) ∧ ∀ b, Th.id (.rsl v 1 (ones L)) = some b → vId v = some b := by
 refine ⟨?_, fun b hb => ?_⟩
 ·obtain ⟨hl, o⟩ := o
  rcases o with ⟨rfl, rfl⟩ | ⟨id, c, cs, sz, f, rfl, hn, hb, hf, hsz, hc'⟩
  ·have : L = [] := List.eq_nil_of_length_eq_zero (by omega)
   subst this
   exact ⟨ones_one _, .inl ⟨none, 0, rfl, rfl⟩⟩
  ·refine ⟨ones_one _, .inr ⟨id, 0, c, cs, sz, e, 1, true, f, by rw [ones_len, hl, Nat.mul_one], by rw [ones_len, hl]; omega, hb, .inr rfl, fun i j l hi hj => ?_⟩⟩
   have : j = 0 := by omega
   subst this
   unfold ones at hi
   rw [List.getElem?_map] at hi
   rw [show 0 + i * 1 + 0 = i from by omega]
   cases hL : L[i]? with
   | none => rw [hL] at hi; cases hi
   | some x =>
    rw [hL] at hi; injection hi with hi; rw [← hi, hc' i (List.getElem?_eq_some_iff.1 hL).1, hL]; rfl
 ·cases L with
  | nil => cases hb
  | cons x L => exact hb
theorem Sto.rdO (k : Nat) {v : Value} {e n : Nat} {fl : Bool} {L : List Value} (H : Sto h0 S h m) (hk : m[k]? = some (.osl v e 1 fl n L)) : Rd h v 1 (ones L) :=
 have r := OwnSl.rd1 (H.ok _ (List.mem_of_getElem? hk))
 ⟨r.1, fun b hb => (H.ids _ (List.mem_of_getElem? hk) b (r.2 b hb)).1⟩
theorem w_appendB (k j : Nat) {v : Value} {e u by_ n t c n2 b2 : Nat} {rw_ fl fl2 : Bool} {L L2 : List Value} {K : KV} (H : Sto h0 S h m) (hk : m[k]? = some (.osl v e u fl n L)) (hj : m[j]? = some (.blk b2 (.row t u rw_ fl2 L2))) (hl : L2.length = n2 * u) (h1 : allOne L2 = true) (h2 : 0 < n2) (hb : (n + n2) * by_ ≤ 70368744177664)
 (kk : ∀ v' h', Sto h0 S h' (m.set k (.osl v' e u (fl && flatL L2) (n + n2) (L ++ L2))) → h.nx ≤ h'.nx → WP (K v' h') Q) : WP (after K (app0 e u by_ h v (.slice (some ⟨b2, 0, none⟩) n2 c))) Q := by
 have hr : rowOf h u n2 (some ⟨b2, 0, none⟩) = some L2 := by
  obtain ⟨c, f, hbk, _, hc'⟩ := H.ok _ (List.mem_of_getElem? hj)
  cases n2 with
  | zero => omega
  | succ l =>
   show blkCells (Nat.mul (Nat.succ l) u) 0 (h.hp.get b2) = _
   rw [hbk]
   show loadN c (Nat.mul (Nat.succ l) u) 0 [] = _
   have := loadN_get ((l + 1) * u) 0 c L2 [] hl (fun j _ => by rw [Nat.zero_add]; exact hc' j)
   simpa using this
 obtain ⟨v', h', a1, a2, a3, a4, a5, a6, a7, a8⟩ := app2_own (by_ := by_) (H.ok _ (List.mem_of_getElem? hk)) hl hb
 have : app0 e u by_ h v (.slice (some ⟨b2, 0, none⟩) n2 c) = some (v', h') := by
  show app1 h e u by_ n2 v (rowOf h u n2 (some ⟨b2, 0, none⟩)) = _
  rw [hr]
  show (match allOne L2 with | true => app2 h e u by_ n2 L2 v | false => none) = _
  rw [h1]; exact a1
 rw [this]
 exact kk v' h' (H.app hk a2 a3 a4 a5 a6 a7 a8) a3
theorem w_slH (k : Nat) {v : Value} {u hh : Nat} {k2 : IntKind} {L : List (List Value)} {en : En} {K : KV} (H : Sto h0 S h m) (hk : m[k]? = some (.rsl v u L)) (h2 : hh ≤ L.length) (kk : ∀ v', Sto h0 S h (.rsl v' u (L.take hh) :: m) → WP (K v' h) Q) :
 WP (after K (oSlice u (.c v) none (some (.c (.int k2 (.ofNat hh)))) none en h)) Q := w_sliceR (l := 0) k H hk (fun _ _ => rfl) (fun _ hc => top1_ok (k := k2) (by omega)) (Nat.zero_le _) h2 kk
theorem OwnSl.form {v : Value} {e u n : Nat} {fl : Bool} {L : List Value} (o : OwnSl h v e u fl n L) : ∃ a c, v = .slice a n c := by
 obtain ⟨_, o⟩ := o
 rcases o with ⟨rfl, rfl⟩ | ⟨id, c, cs, sz, f, rfl, _⟩
 ·exact ⟨_, _, rfl⟩
 ·exact ⟨_, _, rfl⟩
theorem RdSl.form {v : Value} {u : Nat} {L : List (List Value)} (o : RdSl h v u L) : ∃ a c, v = .slice a L.length c := by
 obtain ⟨_, o⟩ := o
 rcases o with ⟨a, c, rfl, rfl⟩ | ⟨id, o, c, cs, sz, e, u', rw_, f, rfl, _⟩
 ·exact ⟨_, _, rfl⟩
 ·exact ⟨_, _, rfl⟩
theorem RdSl.formN {v : Value} {u n : Nat} {L : List (List Value)} (o : RdSl h v u L) (hn : L.length = n) : ∃ a c, v = .slice a n c := by subst hn; exact o.form
theorem OwnSl.blk {v : Value} {e u n : Nat} {fl : Bool} {L : List Value} (o : OwnSl h v e u fl n L) {b : Nat} (hb : b ∈ blkC v) : vId v = some b := by
 obtain ⟨_, o⟩ := o
 rcases o with ⟨rfl, rfl⟩ | ⟨id, c, cs, sz, f, rfl, _⟩
 ·cases hb
 ·have : b = id := by simpa [blkC, blkA] using hb
  subst this; rfl
theorem w_clrC (C : Value → Value) (k : Nat) {v : Value} {e u n : Nat} {fl : Bool} {L : List Value} (H : Sto h0 [] h m) (hk : m[k]? = some (.osl v e u fl n L)) (hbk : ∀ a n c, blkV (C (.slice a n c)) = blkC (.slice a n c)) (hrn : ∀ ρ a n c, renV ρ (C (.slice a n c)) = C (renC ρ (.slice a n c))) (q : ∀ v' h', New h0 h' (.osl v' e u fl n L) → Q (C v') h') : WP (clrK h0 (C v) h) Q := by
 have hid := H.ids _ (List.mem_of_getElem? hk)
 have o := H.ok _ (List.mem_of_getElem? hk)
 obtain ⟨sa, sc, hv⟩ := o.form
 have hb' : ∀ b ∈ blkV (C v), vId v = some b := fun b hb => o.blk (by rw [hv] at hb ⊢; rw [hbk] at hb; exact hb)
 have hn : ∀ b, vId v = some b → h0.nx ≤ b := fun b hb => by
  rcases (hid b hb).2 rfl with h1 | h1
  ·exact h1
  ·cases h1
 obtain ⟨ρ, h', e1, e2, e3, e4, e5, _⟩ := clr_gen (C v) H.lo0 H.ext0 (fun b hb => (hid b (hb' b hb)).1)
 rw [e1]
 have hr2 : renV ρ (C v) = C (renC ρ v) := by rw [hv]; exact hrn _ _ _ _
 rw [hr2]
 obtain ⟨r1, r2⟩ := osl_ren (h0 := h0) (h' := h') (ρ := ρ) o hn (fun b hb => e5 b (by have q := vId_blk hb; rw [hv] at q ⊢; rw [hbk]; exact q) (hn b hb))
 exact ⟨_, h', rfl, q _ _ ⟨⟨e2, e3⟩, r1, r2⟩⟩
theorem w_max_NN {a b : Nat} {k1 k2 : IntKind} {en : En} {K : KV} (w : WP (K (.int k1 (.ofNat (max a b))) h) Q) : WP (after K (oMinmax true [.c (.int k1 (.ofNat a)), .c (.int k2 (.ofNat b))] en h)) Q := by
 refine w_rs (v := .int k1 (.ofNat (max a b))) (h := h) ?_ w
 show some (Value.int k1 (match ltI (.ofNat a) (.ofNat b) with | true => .ofNat b | false => .ofNat a), h) = _
 rw [ltI_eq]
 by_cases c : a < b
 ·rw [decide_eq_true (show Int.ofNat a < Int.ofNat b from by simp only [Int.ofNat_eq_natCast]; omega), Nat.max_eq_right (by omega)]
 ·rw [decide_eq_false (show ¬ Int.ofNat a < Int.ofNat b from by simp only [Int.ofNat_eq_natCast]; omega), Nat.max_eq_left (by omega)]
theorem w_min_NN {a b : Nat} {k1 k2 : IntKind} {en : En} {K : KV} (w : WP (K (.int k1 (.ofNat (min a b))) h) Q) : WP (after K (oMinmax false [.c (.int k1 (.ofNat a)), .c (.int k2 (.ofNat b))] en h)) Q := by
 refine w_rs (v := .int k1 (.ofNat (min a b))) (h := h) ?_ w
 show some (Value.int k1 (match ltI (.ofNat b) (.ofNat a) with | true => .ofNat b | false => .ofNat a), h) = _
 rw [ltI_eq]
 by_cases c : b < a
 ·rw [decide_eq_true (show Int.ofNat b < Int.ofNat a from by simp only [Int.ofNat_eq_natCast]; omega), Nat.min_eq_right (by omega)]
 ·rw [decide_eq_false (show ¬ Int.ofNat b < Int.ofNat a from by simp only [Int.ofNat_eq_natCast]; omega), Nat.min_eq_left (by omega)]
theorem w_st1A {p : Value} {cs : List Value} {K : KV} (w : WP (after K (store1 1 h cs (addrOf p))) Q) : WP (kStore1 p (.agg cs.toArray) h K) Q := w
theorem w_atO (k : Nat) {hh : Hs} {v : Value} {e n i : Nat} {fl : Bool} {L : List Value} {x : Value} {K : Value → An} (H : Sto h0 S h m) (hk : m[k]? = some (.osl v e 1 fl n L)) (hi : L[i]? = some x) (hp : hh.hp = h.hp) (w : WP (K x) Q) :
 WP (kIdxA 1 v (.int .i64 (.ofNat i)) (fun p => kLoad p hh K)) Q := by
 obtain ⟨hl, o⟩ := H.ok _ (List.mem_of_getElem? hk)
 have li := (List.getElem?_eq_some_iff.1 hi).1
 rcases o with ⟨rfl, rfl⟩ | ⟨id, c, cs, sz, f, rfl, hn, hb, hf, hsz, hc⟩
 ·omega
 ·rw [kIdxA_ok (by omega), kLoad_ok (by rw [hp]; exact hb) (by rw [Nat.zero_add, Nat.mul_one]; exact (hc i li).trans hi)]; exact w
theorem w_storeO (k : Nat) {v : Value} {e n i : Nat} {fl : Bool} {L : List Value} {x : Value} {K : KV} (H : Sto h0 S h m) (hk : m[k]? = some (.osl v e 1 fl n L)) (hi : i < L.length) (hx : oneC x = true)
 (kk : ∀ h', Sto h0 S h' (m.set k (.osl v e 1 (andB fl (flat1 x)) n (L.set i x))) → h'.nx = h.nx → WP (K undef' h') Q) : WP (kIdxA 1 v (.int .i64 (.ofNat i)) (fun p => kStore1 p x h K)) Q := by
 have hid := H.ids _ (List.mem_of_getElem? hk)
 obtain ⟨hl, o⟩ := H.ok _ (List.mem_of_getElem? hk)
 rcases o with ⟨rfl, rfl⟩ | ⟨id, c, cs, sz, f, rfl, hn, hb, hf, hsz, hc⟩
 ·omega
 ·rw [kIdxA_ok (by omega)]
  have hv : Tr.getK cs (0 + i * 1) = some L[i] := by rw [getK_eq, Nat.zero_add, Nat.mul_one, hc i hi, List.getElem?_eq_getElem hi]
  have e1 : kStore1 (.pointer (some ⟨id, 0 + i * 1, none⟩)) x h K = K undef' ⟨h.hp.set id (some (.row (cs.set i (some x)) sz e 1 true (andB f (flat1 x)))), h.nx, minN h.lo id⟩ := by
   unfold kStore1
   rw [hx]
   show getB h id (fun B => st1 h id (0 + i * 1) x K B) = _
   unfold getB
   rw [getK_eq, hb]
   show st1 h id (0 + i * 1) x K (.row cs sz e 1 true f) = _
   unfold st1
   show Option.rec (motive := fun _ => An) none _ (Tr.getK cs (0 + i * 1)) = _
   rw [hv]
   obtain ⟨hp, nx, lo⟩ := h
   show flF f x _ = _
   rw [flF_eq, loF_eq, setK_eq, setK_eq, show 0 + i * 1 = i from by omega]
  rw [e1]
  refine kk _ (H.upd hk rfl (Nat.le_refl _) (fun b' _ hb' => ?_) (fun y h1 _ h2 => ?_) (minN_le_left _ _) (fun b' hb' => .inl ?_) ?_ (fun b' hb' => ⟨(hid b' hb').1, .inl hb'⟩)) rfl
  ·show (h.hp.set id _).get b' = _
   rw [Tr.get_set, if_neg]
   intro q; exact hb' (by rw [q]; rfl)
  ·show y ≤ minN h.lo id
   rw [minN_eq]
   have := h2 id rfl
   omega
  ·have : id = b' := by injection hb'
   subst this; exact minN_le_right _ _
  ·refine ⟨by rw [List.length_set]; exact hl, .inr ⟨id, c, cs.set i (some x), sz, andB f (flat1 x), rfl, hn, ?_, fun q => ?_, by rw [List.length_set]; exact hsz, fun j hj => ?_⟩⟩
   ·show (h.hp.set id _).get id = _
    rw [Tr.get_set, if_pos rfl]
   ·cases fl with
    | false => cases q
    | true => rw [hf rfl]; exact q
   ·rw [List.length_set] at hj
    rw [Tr.get_set, List.getElem?_set]
    by_cases q : i = j
    ·subst q; rw [if_pos rfl, if_pos rfl, if_pos hi]
    ·rw [if_neg q, if_neg q]; exact hc j hj
theorem w_uandNot {a b : Nat} {K : Value → An} (ha : a ≤ 18446744073709551615) (hb : b ≤ 18446744073709551615) (w : WP (K (.int .u64 (.ofNat (a &&& (18446744073709551615 - b))))) Q) : WP (kU64 .andNot (.int .u64 (.ofNat a)) (.int .u64 (.ofNat b)) K) Q := by
 have e : a &&& (18446744073709551615 - b) ≤ 18446744073709551615 := Nat.le_trans Nat.and_le_left ha
 show WP (K (.int .u64 (wrapF .u64 (.ofNat (Nat.land (Nat.mod a 18446744073709551616) (Nat.sub (Nat.sub 18446744073709551616 1) (Nat.mod b 18446744073709551616))))))) Q
 have e1 : Nat.mod a 18446744073709551616 = a := Nat.mod_eq_of_lt (by omega)
 have e2 : Nat.mod b 18446744073709551616 = b := Nat.mod_eq_of_lt (by omega)
 rw [e1, e2]
 show WP (K (.int .u64 (wrapF .u64 (.ofNat (a &&& (18446744073709551615 - b)))))) Q
 have : wrapF .u64 (.ofNat (a &&& (18446744073709551615 - b))) = .ofNat (a &&& (18446744073709551615 - b)) := by
  unfold wrapF
  rw [show inK .u64 (.ofNat (a &&& (18446744073709551615 - b))) = true from Nat.ble_eq_true_of_le e]
 rw [this]; exact w
theorem w_callV {R : RnK} {g : FuncId} {args cap : List Value} {K : KV} (w : WP (kCall R g (args ++ cap) h K) Q) : WP (kCallV R (.func (.func g) #[] cap.toArray) args h K) Q := by
 show WP (kCall R g ([] ++ args ++ cap) h K) Q
 rw [List.nil_append]; exact w
theorem w_isVal {R : RnK} {g : FuncId} {args cap : List Value} {K : KV} (w : WP (kCall R g (args ++ cap) h K) Q) : WP (isVal K (callV (toRn R) args h (.func (.func g) #[] cap.toArray))) Q := by
 obtain ⟨v, h', e, q⟩ := w
 refine ⟨v, h', ?_, q⟩
 rw [← e]
 show isVal K (R g ([] ++ args ++ cap) h) = _
 rw [List.nil_append]
 unfold kCall isVal
 cases R g (args ++ cap) h with
 | none => rfl
 | some o => cases o <;> rfl
theorem New.rd {h' : Hs} {v : Value} {u : Nat} {L : List (List Value)} (n : New h h' (.rsl v u L)) : Rd h' v u L := ⟨n.2.1, fun b hb => (n.2.2 b hb).2⟩
theorem New.ones {h' : Hs} {v : Value} {e n : Nat} {fl : Bool} {L : List Value} (w : New h h' (.osl v e 1 fl n L)) : New h h' (.rsl v 1 (Gev.ones L)) :=
 have r := OwnSl.rd1 w.2.1
 ⟨w.1, r.1, fun b hb => w.2.2 b (r.2 b hb)⟩
end Go.Gev
namespace Go.Gev
variable {Q : Value → Hs → Prop} {h0 : Hs} {S : List Nat} {h : Hs} {m : List Th}
def Mut (h h' : Hs) (b : Nat) : Prop := h.nx ≤ h'.nx ∧ (∀ id, id < h.nx → id ≠ b → h'.hp.get id = h.hp.get id) ∧ (∀ x, x ≤ h.lo → x ≤ b → x ≤ h'.lo) ∧ h'.lo ≤ h.lo ∧ (h'.lo ≤ b ∨ h'.hp.get b = h.hp.get b)
theorem Sto.mut (k : Nat) {h' : Hs} {b : Nat} {o o' : Obj} (H : Sto h0 S h m) (hk : m[k]? = some (.blk b o)) (mu : Mut h h' b) (ho : Holds (h'.hp.get b) o') : Sto h0 S h' (m.set k (.blk b o')) := by
 refine H.upd hk rfl mu.1 (fun b' hb hn => mu.2.1 b' hb fun e => hn (by rw [e]; rfl)) (fun x h1 _ h2 => mu.2.2.1 x h1 (h2 b rfl)) mu.2.2.2.1 (fun b' hb => ?_) ho (fun b' hb => ?_)
 ·have : b = b' := by injection hb
  subst this; exact mu.2.2.2.2
 ·have : b = b' := by injection hb
  subst this
  exact ⟨Nat.lt_of_lt_of_le (H.ids _ (List.mem_of_getElem? hk) b rfl).1 mu.1, .inl rfl⟩
theorem Sto.enterM {b : Nat} {o : Obj} (m : List Th) (ho : Holds (h.hp.get b) o) (hb : b < h.nx) (hm : ∀ t ∈ m, t.ex = false ∧ t.body h ∧ ∀ b', t.id = some b' → b' < h.nx ∧ b' ≠ b) : Sto h [b] ⟨h.hp, h.nx, h.nx⟩ (.blk b o :: m) := by
 refine ⟨Nat.le_refl _, fun _ _ _ => rfl, fun k hk _ => hk, fun t ht => ?_, fun t ht b' hb' => ?_, fun _ _ _ => rfl, fun i j s t hi hj hij he b' hb' => ?_⟩
 ·rcases List.mem_cons.1 ht with rfl | ht
  ·exact ho
  ·exact Th.congr (hm t ht).2.1 fun _ _ => rfl
 ·rcases List.mem_cons.1 ht with rfl | ht
  ·have : b = b' := by injection hb'
   subst this
   exact ⟨hb, fun _ => .inr (by simp)⟩
  ·exact ⟨((hm t ht).2.2 b' hb').1, fun e => by rw [(hm t ht).1] at e; cases e⟩
 ·cases i with
  | zero =>
   have e : Th.blk b o = s := by injection hi
   subst e
   have : b = b' := by injection hb'
   subst this
   cases j with
   | zero => exact absurd rfl hij
   | succ j => exact fun q => ((hm t (List.mem_of_getElem? hj)).2.2 b q).2 rfl
  | succ i =>
   have := (hm s (List.mem_of_getElem? hi)).1
   rw [this] at he; cases he
theorem mvAll_flatV {src : Tr Blk} {n0 : Nat} {mm : Mv} {v : Value} (hv : flatV v = true) : mvAll src n0 mm v = some (v, mm) := by
 rcases isTup v with ⟨vs, rfl⟩ | hn
 ·show mvWrap (fun l => .tuple l.toArray) (mvParts src n0 vs.toList _) = _
  rw [mvParts_flatP hv]; rfl
 ·rw [(notTup hn).2.2]
  refine mvPart_flatP ?_
  cases v with
  | tuple cs => exact absurd rfl (hn cs)
  | _ => exact hv
theorem Sto.ne {i j a b : Nat} {o o' : Obj} (H : Sto h0 S h m) (hi : m[i]? = some (.blk a o)) (hj : m[j]? = some (.blk b o')) (hij : i ≠ j) : a ≠ b := fun e => H.dj i j _ _ hi hj hij rfl a rfl (by rw [e]; rfl)
theorem Sto.neR {i j b : Nat} {o : Obj} {v : Value} {u : Nat} {L : List (List Value)} (H : Sto h0 S h m) (hi : m[i]? = some (.blk b o)) (hj : m[j]? = some (.rsl v u L)) (hij : i ≠ j) : Th.id (.rsl v u L) ≠ some b := H.dj i j _ _ hi hj hij rfl b rfl
theorem Sto.lt (k : Nat) {b : Nat} {o : Obj} (H : Sto h0 S h m) (hk : m[k]? = some (.blk b o)) : b < h.nx := (H.ids _ (List.mem_of_getElem? hk) b rfl).1
theorem Sto.holds (k : Nat) {b : Nat} {o : Obj} (H : Sto h0 S h m) (hk : m[k]? = some (.blk b o)) : Holds (h.hp.get b) o := H.ok _ (List.mem_of_getElem? hk)
theorem w_mkfn {f : FuncId} {first cap : List GX} {en : En} {K : KV} (w : WP (K (.func (.func f) (evL en first).toArray (evL en cap).toArray) h) Q) : WP (after K (oMkfunc (.func f) first cap en h)) Q := w
theorem Sto.sel (ix : List Nat) (n : Nat) (H : Sto h0 S h m) (hm : m.length = n) (hi : ∀ i ∈ ix, i < n) (hn : ix.Nodup) : Sto h0 S h (ix.filterMap fun i => m[i]?) := by
 refine H.pick ix hn ?_
 subst hm
 clear hn H
 induction ix with
 | nil => rfl
 | cons i ix ih =>
  have hlt := hi i List.mem_cons_self
  rw [List.map_cons, List.filterMap_cons, List.getElem?_eq_getElem hlt, ih fun j hj => hi j (List.mem_cons_of_mem _ hj)]
  rfl
theorem Sto.unfl (k : Nat) {b e u : Nat} {rw_ fl : Bool} {L : List Value} (H : Sto h0 S h m) (hk : m[k]? = some (.blk b (.row e u rw_ fl L))) : Sto h0 S h (m.set k (.blk b (.row e u rw_ false L))) := by
 obtain ⟨c, f, hb, _, hc⟩ := H.holds k hk
 refine H.upd hk rfl (Nat.le_refl _) (fun _ _ _ => rfl) (fun _ h1 _ _ => h1) (Nat.le_refl _) (fun _ _ => .inr rfl) ⟨c, f, hb, (fun q => by cases q), hc⟩ (fun b' hb' => ?_)
 have q : b = b' := by injection hb'
 subst q
 exact ⟨H.lt k hk, .inl hb'⟩
theorem OwnSl.row {v : Value} {e u n : Nat} {fl : Bool} {L : List Value} (o : OwnSl h v e u fl n L) : ∃ a c, v = .slice a n c ∧ rowOf h u n a = some L := by
 obtain ⟨hl, o⟩ := o
 rcases o with ⟨rfl, rfl⟩ | ⟨id, c, cs, sz, f, rfl, hn, hb, hf, hsz, hc⟩
 ·have : L = [] := List.eq_nil_of_length_eq_zero (by rw [hl, Nat.zero_mul])
  subst this
  exact ⟨none, 0, rfl, rfl⟩
 ·refine ⟨_, c, rfl, ?_⟩
  cases n with
  | zero =>
   have : L = [] := List.eq_nil_of_length_eq_zero (by rw [hl, Nat.zero_mul])
   subst this; rfl
  | succ n =>
   show blkCells (Nat.mul (Nat.succ n) u) 0 (h.hp.get id) = _
   rw [hb]
   show loadN cs (Nat.mul (Nat.succ n) u) 0 [] = _
   have := loadN_get ((n + 1) * u) 0 cs L [] hl (fun j hj => by rw [Nat.zero_add]; exact hc j (by omega))
   simpa using this
end Go.Gev
namespace Go.Gev
variable {Q : Value → Hs → Prop} {h0 : Hs} {S : List Nat} {h : Hs} {m : List Th}
theorem set_at {m : List Th} {k i : Nat} {x t : Th} (hi : (m.set k x)[i]? = some t) : (i = k ∧ t = x) ∨ (i ≠ k ∧ m[i]? = some t) := by
 rw [List.getElem?_set] at hi
 by_cases e : k = i
 ·rw [if_pos e] at hi
  split at hi
  ·exact .inl ⟨e.symm, by injection hi with hi; exact hi.symm⟩
  ·cases hi
 ·rw [if_neg e] at hi
  exact .inr ⟨fun q => e q.symm, hi⟩
theorem Sto.put (k : Nat) {b lo : Nat} {o o' : Obj} {B : Option Blk} (H : Sto h0 [] h m) (hk : m[k]? = some (.blk b o)) (hB : Holds B o') (hlo : h0.nx ≤ lo) : Sto h0 [] ⟨h.hp.set b B, h.nx, lo⟩ (m.set k (.blk b o')) := by
 have hm := List.mem_of_getElem? hk
 have hid := H.ids _ hm b rfl
 have hb : h0.nx ≤ b := (hid.2 rfl).elim id (fun q => by cases q)
 have hfr : ∀ id, id < h0.nx → (h.hp.set b B).get id = h0.hp.get id := fun id hi => by
  rw [Tr.get_set, if_neg (by omega)]; exact H.fr id hi (fun q => by cases q)
 refine ⟨H.nx, fun id hi _ => hfr id hi, fun k hk _ => Nat.le_trans hk hlo, fun t ht => ?_, fun t ht => ?_, fun id hi _ => hfr id hi, fun i j s t hi hj hij he b' hb' => ?_⟩
 ·obtain ⟨i, hi⟩ := List.getElem?_of_mem ht
  rcases set_at hi with ⟨rfl, rfl⟩ | ⟨e, hi⟩
  ·show Holds ((h.hp.set b B).get b) o'
   rw [Tr.get_set, if_pos rfl]; exact hB
  ·refine Th.congr (H.ok t (List.mem_of_getElem? hi)) fun b' hb' => ?_
   have : t.id ≠ some b := H.dj k i _ _ hk hi (fun q => e q.symm) rfl b rfl
   show (h.hp.set b B).get b' = _
   rw [Tr.get_set, if_neg (fun q => this (by rw [hb', q]))]
 ·obtain ⟨i, hi⟩ := List.getElem?_of_mem ht
  rcases set_at hi with ⟨rfl, rfl⟩ | ⟨e, hi⟩
  ·intro b' hb'
   injection hb' with hb'; subst hb'
   exact ⟨hid.1, fun _ => .inl hb⟩
  ·exact H.ids t (List.mem_of_getElem? hi)
 ·rcases set_at hi with ⟨e1, q1⟩ | ⟨e1, hi'⟩ <;> rcases set_at hj with ⟨e2, q2⟩ | ⟨e2, hj'⟩
  ·exact absurd (e1.trans e2.symm) hij
  ·subst e1 q1; exact H.dj i j _ t hk hj' hij rfl b' hb'
  ·subst e2 q2; exact H.dj i j s _ hi' hk hij he b' hb'
  ·exact H.dj i j s t hi' hj' hij he b' hb'
def Th.ro : Th → Th
 | .blk i o => .rob i o
 | .osl v _ u _ _ L => if u = 1 then .rsl v 1 (ones L) else .rsl (.slice none 0 0) 1 []
 | .rsl v u L => .rsl v u L
 | .rob i o => .rob i o
 | .rel b o l => .rel b o l
theorem Th.ro_ex (t : Th) : t.ro.ex = false := by
 cases t with
 | osl v e u fl n L => show (if u = 1 then _ else _ : Th).ex = _; by_cases q : u = 1 <;> simp only [q, if_true, if_false] <;> rfl
 | _ => rfl
theorem Th.ro_body {h : Hs} {t : Th} (o : t.body h) : t.ro.body h := by
 cases t with
 | osl v e u fl n L =>
  show (if u = 1 then _ else _ : Th).body h
  by_cases q : u = 1
  ·subst q; rw [if_pos rfl]
   exact (OwnSl.rd1 o).1
  ·rw [if_neg q]
   exact ⟨fun l hl => (by cases hl), .inl ⟨_, _, rfl, rfl⟩⟩
 | _ => exact o
theorem Th.ro_id {h : Hs} {t : Th} (o : t.body h) {b : Nat} (hb : t.ro.id = some b) : t.id = some b := by
 cases t with
 | osl v e u fl n L =>
  have hb : (if u = 1 then _ else _ : Th).id = some b := hb
  by_cases q : u = 1
  ·subst q; rw [if_pos rfl] at hb
   exact (OwnSl.rd1 o).2 b hb
  ·rw [if_neg q] at hb; cases hb
 | _ => exact hb
theorem Sto.cut {c : Nat} {m1 m2 : List Th} (H : Sto h0 S h (m1 ++ m2)) (h2 : c ≤ h.nx) (own : ∀ t ∈ m1, t.ex = true ∧ ∀ b, t.id = some b → c ≤ b) :
 Sto ⟨h.hp, c, c⟩ [] ⟨h.hp, h.nx, h.nx⟩ (m1 ++ m2.map Th.ro) := by
 have at_ : ∀ (i : Nat) (t : Th), (m1 ++ m2.map Th.ro)[i]? = some t → ∃ s, (m1 ++ m2)[i]? = some s ∧ ((t = s ∧ s ∈ m1) ∨ (t = s.ro ∧ s ∈ m2)) := fun i t hi => by
  by_cases q : i < m1.length
  ·rw [List.getElem?_append_left q] at hi
   exact ⟨t, by rw [List.getElem?_append_left q]; exact hi, .inl ⟨rfl, List.mem_of_getElem? hi⟩⟩
  ·rw [List.getElem?_append_right (by omega), List.getElem?_map] at hi
   cases hs : m2[i - m1.length]? with
   | none => rw [hs] at hi; cases hi
   | some s =>
    rw [hs] at hi
    exact ⟨s, by rw [List.getElem?_append_right (by omega)]; exact hs, .inr ⟨by injection hi with hi; exact hi.symm, List.mem_of_getElem? hs⟩⟩
 refine ⟨h2, fun _ _ _ => rfl, fun k hk _ => Nat.le_trans hk h2, fun t ht => ?_, fun t ht b hb => ?_, fun _ _ _ => rfl, fun i j s t hi hj hij he b hb => ?_⟩
 ·obtain ⟨i, hi⟩ := List.getElem?_of_mem ht
  obtain ⟨s, hs, q⟩ := at_ i t hi
  have o := H.ok s (List.mem_of_getElem? hs)
  rcases q with ⟨rfl, _⟩ | ⟨rfl, _⟩
  ·exact Th.congr o fun _ _ => rfl
  ·exact Th.congr (Th.ro_body o) fun _ _ => rfl
 ·obtain ⟨i, hi⟩ := List.getElem?_of_mem ht
  obtain ⟨s, hs, q⟩ := at_ i t hi
  have o := H.ok s (List.mem_of_getElem? hs)
  rcases q with ⟨rfl, q⟩ | ⟨rfl, _⟩
  ·exact ⟨(H.ids t (List.mem_of_getElem? hs) b hb).1, fun _ => .inl ((own t q).2 b hb)⟩
  ·exact ⟨(H.ids s (List.mem_of_getElem? hs) b (Th.ro_id o hb)).1, fun e => by rw [Th.ro_ex] at e; cases e⟩
 ·obtain ⟨s', hs, q⟩ := at_ i s hi
  obtain ⟨t', ht, q'⟩ := at_ j t hj
  have o := H.ok t' (List.mem_of_getElem? ht)
  rcases q with ⟨rfl, _⟩ | ⟨rfl, _⟩
  ·have := H.dj i j s t' hs ht hij he b hb
   rcases q' with ⟨rfl, _⟩ | ⟨rfl, _⟩
   ·exact this
   ·exact fun e => this (Th.ro_id o e)
  ·rw [Th.ro_ex] at he; cases he
theorem Sto.nilS {h0 : Hs} {S : List Nat} {h : Hs} {m : List Th} (H : Sto h0 S h m) (t u : Nat) : Sto h0 S h (.osl (.slice none 0 0) t u true 0 [] :: m) :=
 H.cons (.osl (.slice none 0 0) t u true 0 []) ⟨(Nat.zero_mul u).symm, .inl ⟨rfl, rfl⟩⟩ (fun b hb => by cases hb) (fun s hs he b hb => by cases hb)
end Go.Gev
namespace Go.Gev
variable {Q : Value → Hs → Prop} {h0 : Hs} {S : List Nat} {h : Hs} {m : List Th}
end Go.Gev
namespace Go.Gev
variable {Q : Value → Hs → Prop} {h0 : Hs} {S : List Nat} {h : Hs} {m : List Th}
theorem ones_flatten (L : List Value) : (ones L).flatten = L := by
 induction L with
 | nil => rfl
 | cons x L ih => show x :: (ones L).flatten = _; rw [ih]
end Go.Gev

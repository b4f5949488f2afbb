/- Contracts of functions, by the logic of residual programs. -/
import Derived.Test.YtmolikcajfphlaaEsB
namespace Go.Proofs.Ytmolikcajfphlaa.editSlots
open Go Go.Gev
set_option linter.unusedVariables false
theorem w_slLHB {Q : Value → Hs → Prop} {h0 h : Hs} {S : List Nat} {m : List Th} (k : Nat) {b o n c u u' l hh e : Nat} {rw_ fl : Bool} {L : List Value} {k1 k2 : IntKind} {en : En} {K : KV} (H : Sto h0 S h m) (hk : m[k]? = some (.blk b (.row e u' rw_ fl L))) (hu : u' = 0 ∨ u' = u) (hl : l < hh) (hc : hh ≤ c) (w : WP (K (.slice (some ⟨b, o + l * u, none⟩) (hh - l) (c - l)) h) Q) :
 WP (after K (oSlice u (.c (.slice (some ⟨b, o, none⟩) n c)) (some (.c (.int k1 (.ofNat l)))) (some (.c (.int k2 (.ofNat hh)))) none en h)) Q := by
 obtain ⟨cs, f, hb, _, _⟩ := H.ok _ (List.mem_of_getElem? hk)
 refine w_rs (v := .slice (some ⟨b, o + l * u, none⟩) (hh - l) (c - l)) (h := h) ?_ w
 show ret1 h (slice3 h u en (some ⟨b, o, none⟩) (some (.c (.int k1 (.ofNat l)))) c (bnd en n c (some (.c (.int k2 (.ofNat hh)))))) = _
 rw [show bnd en n c (some (.c (.int k2 (.ofNat hh)))) = some hh from top1_ok (k := k2) hc]
 show ret1 h (match bnd en 0 hh (some (.c (.int k1 (.ofNat l)))) with | none => none | some l => cutA h u l hh c (some ⟨b, o, none⟩)) = _
 rw [show bnd en 0 hh (some (.c (.int k1 (.ofNat l)))) = some l from top1_ok (k := k1) (by omega)]
 show ret1 h (match Nat.beq l 0 with | true => some (Value.slice (some ⟨b, o, none⟩) hh c) | false => match Nat.beq hh l with | true => some (Value.slice (some ⟨b, o, some 0⟩) 0 0) | false => match unitOk u (h.hp.get b) with | true => some (Value.slice (some ⟨b, Nat.add o (Nat.mul l u), none⟩) (Nat.sub hh l) (Nat.sub c l)) | false => none) = _
 cases hz : Nat.beq l 0 with
 | true =>
  have : l = 0 := beq_iff.1 hz
  subst this
  rw [Nat.zero_mul, Nat.add_zero, Nat.sub_zero, Nat.sub_zero]; rfl
 | false =>
  rw [beq_false.2 (show hh ≠ l by omega), hb]
  have uk : unitOk u (some (Blk.row cs L.length e u' rw_ f)) = true := by
   show orB (Nat.beq u' 0) (Nat.beq u' u) = true
   rcases hu with q | q
   ·rw [q]; rfl
   ·rw [q, Nat.beq_refl]; cases Nat.beq u 0 <;> rfl
  rw [uk]; rfl
def edC (g : Geo) (s s0 : Value) : List Value := [.int .i64 (.ofNat g.b), .int .i64 (.ofNat g.n), .int .i64 (.ofNat g.c), .int .i64 (.ofNat g.k), s, .int .i64 (.ofNat g.b), .int .i64 (.ofNat g.n), .int .i64 (.ofNat g.c), .int .i64 (.ofNat g.k), s0]
abbrev edO (g : Geo) (fl : Bool) (b c : Nat) (s0 : Value) : Gev.Obj := .row 49 0 true fl (edC g (.slice (some ⟨b, 0, none⟩) (8 * g.b) c) s0)
abbrev wdO (W : List Nat) : Gev.Obj := .row 39 1 true false (Wc W)
structure EdAt (h : Hs) (g : Geo) (p b c : Nat) (s0 : Value) (W : List Nat) : Prop where
 ok : g.Ok
 pl : p < h.nx
 bl : b < h.nx
 ne : p ≠ b
 cap : 8 * g.b ≤ c
 len : W.length = 8 * g.b
 sm : Small W
 row : ∃ fl, Holds (h.hp.get p) (edO g fl b c s0)
 wds : Holds (h.hp.get b) (wdO W)
abbrev pV (p : Nat) : Value := .pointer (some ⟨p, 0, none⟩)
theorem _root_.Go.Gev.Sto.neO {h0 h : Hs} {S : List Nat} {m : List Th} {i j b p : Nat} {o o' : Gev.Obj} (H : Sto h0 S h m) (hi : m[i]? = some (.blk b o)) (hj : m[j]? = some (.rob p o')) : p ≠ b := fun e => H.dj i j _ _ hi hj (fun q => by rw [q, hj] at hi; cases hi) rfl b rfl (by rw [← e]; rfl)
theorem EdAt.enter {h : Hs} {g : Geo} {p b c : Nat} {s0 : Value} {W : List Nat} (E : EdAt h g p b c s0 W) (m : List Th) (hm : ∀ t ∈ m, t.ex = false ∧ t.body h ∧ ∀ b', t.id = some b' → b' < h.nx ∧ b' ≠ b) : ∃ fl, Sto h [b] ⟨h.hp, h.nx, h.nx⟩ (.blk b (wdO W) :: .rob p (edO g fl b c s0) :: m) := by
 obtain ⟨fl, hr⟩ := E.row
 refine ⟨fl, Sto.enterM _ E.wds E.bl fun t ht => ?_⟩
 rcases List.mem_cons.1 ht with rfl | ht
 ·exact ⟨rfl, hr, fun b' hb' => by injection hb' with e; subst e; exact ⟨E.pl, E.ne⟩⟩
 ·exact hm t ht
theorem EdAt.of {h0 h : Hs} {S : List Nat} {m : List Th} {g : Geo} {p b c : Nat} {s0 : Value} {W : List Nat} {fl : Bool} (i j : Nat) (H : Sto h0 S h m) (hi : m[i]? = some (.blk b (wdO W))) (hj : m[j]? = some (.rob p (edO g fl b c s0))) (x : g.Ok) (hc : 8 * g.b ≤ c) (hl : W.length = 8 * g.b) (sm : Small W) : EdAt h g p b c s0 W :=
 ⟨x, (H.ids _ (List.mem_of_getElem? hj) p rfl).1, H.lt i hi, H.neO hi hj, hc, hl, sm, ⟨fl, H.ok _ (List.mem_of_getElem? hj)⟩, H.ok _ (List.mem_of_getElem? hi)⟩
theorem EdAt.ofB {h0 h : Hs} {S : List Nat} {m : List Th} {g : Geo} {p b c : Nat} {s0 : Value} {W : List Nat} {fl : Bool} (i j : Nat) (H : Sto h0 S h m) (hi : m[i]? = some (.blk b (wdO W))) (hj : m[j]? = some (.blk p (edO g fl b c s0))) (hij : i ≠ j) (x : g.Ok) (hc : 8 * g.b ≤ c) (hl : W.length = 8 * g.b) (sm : Small W) : EdAt h g p b c s0 W :=
 ⟨x, H.lt j hj, H.lt i hi, fun e => H.ne hi hj hij e.symm, hc, hl, sm, ⟨fl, H.ok _ (List.mem_of_getElem? hj)⟩, H.ok _ (List.mem_of_getElem? hi)⟩
def RdX (h : Hs) (v : Value) (u : Nat) (L : List (List Value)) (b : Nat) : Prop := Rd h v u L ∧ Th.id (.rsl v u L) ≠ some b
theorem RdX.th {h : Hs} {v : Value} {u : Nat} {L : List (List Value)} {b : Nat} (r : RdX h v u L b) : (Th.rsl v u L).ex = false ∧ (Th.rsl v u L).body h ∧ ∀ b', (Th.rsl v u L).id = some b' → b' < h.nx ∧ b' ≠ b := ⟨rfl, r.1.1, fun b' hb' => ⟨r.1.2 b' hb', fun e => r.2 (by rw [← e]; exact hb')⟩⟩
def QW (h : Hs) (b : Nat) (v : Value) (W : List Nat) (r : Value) (h' : Hs) : Prop := r = v ∧ Mut h h' b ∧ Holds (h'.hp.get b) (wdO W)
def CEdPut (R : RnK) : Prop := ∀ (h : Hs) (g : Geo) (p b c : Nat) (s0 : Value) (W : List Nat) (at_ : Nat) (ws : List Nat) (v : Value), EdAt h g p b c s0 W → at_ < g.b → ws.length ≤ 8 → RdX h v 1 (Wl ws) b →
 WP (R 25 [pV p, .int .i64 (.ofNat at_), v] h) (QW h b (.tuple #[]) (putW W (8 * at_) ws))
theorem edPut_ok {R : RnK} {N : Nat} {h : Hs} {g : Geo} {p b c : Nat} {s0 : Value} {W : List Nat} {at_ : Nat} {ws : List Nat} {v : Value} (E : EdAt h g p b c s0 W) (ha : at_ < g.b) (hw : ws.length ≤ 8) (r : RdX h v 1 (Wl ws) b) :
 WP (r25 R N [pV p, .int .i64 (.ofNat at_), v] h) (QW h b (.tuple #[]) (putW W (8 * at_) ws)) := by
 unfold r25
 obtain ⟨fl, H⟩ := E.enter [.rsl v 1 (Wl ws)] (fun t ht => by rw [List.mem_singleton.1 ht]; exact r.th)
 have h1 := E.ok.1.b2
 have h2 := E.len
 have h3 := E.cap
 unfold edO edC at H
 repeat' (first | (with_reducible refine w_unC ?_) | (with_reducible refine w_enK ?_) | (with_reducible refine w_fieldA ?_) | (with_reducible refine w_nil ?_) | ((with_reducible refine w_add_NN ?_ ?_) ; omega) | ((with_reducible refine w_mul_NN ?_ ?_) ; omega) | ((with_reducible apply w_loadR 1 H) ; rfl; rfl; rfl))
 refine w_slLHB 0 H rfl (.inr rfl) (by omega) (by omega) ?_
 have e1 := Wl_len ws
 have e2 : min (Wl ws).length (8 * (at_ + 1) - 8 * at_) = ws.length := by omega
 refine w_copy 0 2 H rfl rfl (by omega) (by rw [Wl_flat]; exact Wc_one ws) (by rw [e2, Wc_len]; omega) fun h' H' _ => ?_
 rw [e2, List.take_of_length_le (by omega), Wl_flat, Wc_flatL, show 0 + 8 * at_ * 1 = 8 * at_ from by omega, setL_putW] at H'
 exact w_clrM 0 H' rfl E.bl rfl fun h'' a b => ⟨rfl, a, b⟩
def setRun (B : List Nat) (yes : Bool) (r j : Nat) : List Nat := (List.range j).foldl (fun l i => setBit l yes ((r + i : Nat) : Int)) B
def setRuns (B : List Nat) (yes : Bool) (rs : List (Nat × Nat)) : List Nat := rs.foldl (fun l r => setRun l yes r.1 r.2) B
theorem setRun_succ (B : List Nat) (yes : Bool) (r j : Nat) : setRun B yes r (j + 1) = setBit (setRun B yes r j) yes ((r + j : Nat) : Int) := by unfold setRun; rw [List.range_succ, List.foldl_append]; rfl
theorem setRun_len (B : List Nat) (yes : Bool) (r : Nat) : ∀ j, (setRun B yes r j).length = B.length := by
 intro j
 induction j with
 | zero => rfl
 | succ j ih => rw [setRun_succ, setBit_len, ih]
theorem setRun_small {B : List Nat} (h : Small B) (yes : Bool) (r : Nat) : ∀ j, Small (setRun B yes r j) := by
 intro j
 induction j with
 | zero => exact h
 | succ j ih => rw [setRun_succ]; exact setBit_small ih _ _
theorem setRuns_len (yes : Bool) (rs : List (Nat × Nat)) : ∀ B : List Nat, (setRuns B yes rs).length = B.length := by
 induction rs with
 | nil => intro B; rfl
 | cons r rs ih => intro B; show (setRuns (setRun B yes r.1 r.2) yes rs).length = _; rw [ih, setRun_len]
theorem setRuns_small (yes : Bool) (rs : List (Nat × Nat)) : ∀ {B : List Nat}, Small B → Small (setRuns B yes rs) := by
 induction rs with
 | nil => intro B h; exact h
 | cons r rs ih => intro B h; exact ih (setRun_small h yes r.1 r.2)
def bitsW (g : Geo) (W : List Nat) : List Nat := (W.drop (8 * g.bitsAt)).take (8 * g.bitsN)
theorem putW_small {W ws : List Nat} {o : Nat} (h : Small W) (h2 : Small ws) : Small (putW W o ws) := fun x hx => by
 unfold putW at hx
 rcases List.mem_append.1 hx with hx | hx
 ·rcases List.mem_append.1 hx with hx | hx
  ·exact h x (List.mem_of_mem_take hx)
  ·exact h2 x hx
 ·exact h x (List.mem_of_mem_drop hx)
def markW (g : Geo) (W : List Nat) (yes : Bool) (rs : List (Nat × Nat)) : List Nat := putW W (8 * g.bitsAt) (setRuns (bitsW g W) yes rs)
theorem good_runs {d : Nd} {g : Geo} (x : g.Ok) (h : d.good g) : ∀ r ∈ d.rs, 1 ≤ r.2 ∧ r.1 + r.2 ≤ g.b := by
 intro r hr
 have h1 := x.1.num
 have h2 := x.2
 have h3 := x.1.n1
 have h5 : g.dataN = g.b - 1 - g.dataAt := rfl
 unfold Nd.good at h
 split at h
 ·rw [h.2.2.2] at hr; cases hr
 ·rcases h.2.2.2.2.2.2.1 with q | q
  ·rw [q.2, List.mem_singleton] at hr
   subst hr
   have h6 : g.lostAt = g.bitsAt + g.bitsN + g.n := rfl
   exact ⟨by show 1 ≤ g.n; omega, by show g.lostAt + g.n ≤ g.b; omega⟩
  ·obtain ⟨i, hi, rfl⟩ := List.getElem_of_mem hr
   have q := (q i hi _ (List.getElem?_eq_getElem hi)).1
   exact ⟨q.1, by have := q.2.2; omega⟩
theorem good_fits {d : Nd} {g : Geo} (x : g.Ok) (h : d.good g) : d.fits := by
 have rs := good_runs x h
 have h1 := x.1.b2
 unfold Nd.good at h
 unfold Nd.fits
 split at h
 ·rename_i z; rw [if_pos z]; exact h
 ·rename_i z
  rw [if_neg z]
  obtain ⟨a, b, c, e, f, k, _, _⟩ := h
  refine ⟨b, by omega, ?_, k, List.all_eq_true.2 fun r hr => ?_⟩
  ·unfold Nd.sizedP at f
   (repeat' split at f) <;> omega
  ·have := rs r hr
   unfold runFits
   exact decide_eq_true ⟨by omega, by omega, by omega⟩
def OldRuns (g : Geo) (W : List Nat) (i : Nat) (old : List (Nat × Nat)) : Prop := (∃ d0, INode g W i d0 ∧ old = d0.rs) ∨ ((∀ d0, ¬ INode g W i d0) ∧ old = [])
theorem OldRuns.le {g : Geo} {W : List Nat} {i : Nat} {old : List (Nat × Nat)} (x : g.Ok) (h : OldRuns g W i old) : old.length ≤ 4 ∧ ∀ r ∈ old, r.1 ≤ 100000 ∧ r.2 ≤ 100000 := by
 have h1 := x.1.b2
 rcases h with ⟨d, hd, rfl⟩ | ⟨_, rfl⟩
 ·refine ⟨?_, fun r hr => by have := good_runs x hd.2.2.2 r hr; omega⟩
  have := good_fits x hd.2.2.2
  unfold Nd.fits at this
  split at this
  ·rw [this.2.2.2]; simp
  ·exact this.2.2.2.1
 ·exact ⟨by simp, fun r hr => by cases hr⟩
def setNodeW (g : Geo) (W : List Nat) (i : Nat) (old : List (Nat × Nat)) (d : Nd) : List Nat := putW (markW g (markW g W false old) true d.rs) (8 * g.nodeAt i) (nodeW d)
theorem bitsW_small {g : Geo} {W : List Nat} (h : Small W) : Small (bitsW g W) := fun x hx => h x (List.mem_of_mem_drop (List.mem_of_mem_take hx))
theorem markW_small {g : Geo} {W : List Nat} {yes : Bool} {rs : List (Nat × Nat)} (h : Small W) : Small (markW g W yes rs) := putW_small h (setRuns_small _ _ (bitsW_small h))
theorem nodeW_small {d : Nd} (h : d.fits) : Small (nodeW d) := by
 unfold nodeW
 split
 ·intro n hn; rw [List.mem_replicate] at hn; omega
 ·rename_i z
  unfold Nd.fits at h
  rw [if_neg z] at h
  have bs := body_small h.1 h.2.2.1 h.2.2.2.2
  intro n hn
  rcases List.mem_append.1 hn with hn | hn
  ·exact bs n hn
  ·rw [List.mem_singleton] at hn; subst hn; exact sealOf_lt bs
theorem fits_len {d : Nd} (h : d.fits) : d.rs.length ≤ 4 := by
 unfold Nd.fits at h
 split at h
 ·rw [h.2.2.2]; simp
 ·exact h.2.2.2.1
theorem setNodeW_small {g : Geo} {W : List Nat} {i : Nat} {old : List (Nat × Nat)} {d : Nd} (h : Small W) (f : d.fits) : Small (setNodeW g W i old d) := putW_small (markW_small (markW_small h)) (nodeW_small f)
theorem _root_.Go.Gev.New.rl {h h' : Hs} {v : Value} {l : List (Nat × Nat)} {fl : Bool} (n : New h h' (.osl v 87 2 fl l.length (Rc l))) : New h h' (.rsl v 2 (Rl l)) := by
 obtain ⟨n1, ⟨hl, o⟩, n3⟩ := n
 rcases o with ⟨rfl, hz⟩ | ⟨id, c, cs, sz, f, rfl, hc, hb, hf, hsz, hc'⟩
 ·obtain rfl : l = [] := List.eq_nil_of_length_eq_zero hz
  exact ⟨n1, (Rd.none _ _).1, fun b hb => by cases hb⟩
 ·refine ⟨n1, ⟨Rl_two l, .inr ⟨id, 0, c, cs, sz, _, 2, true, f, by rw [Rl_len], by rw [Rl_len]; exact hc, hb, .inr rfl, fun i j x hi hj => ?_⟩⟩, fun b hb => n3 b ?_⟩
  ·have hx := flatten_get (Rl_two l) i j hj
   rw [hi] at hx
   have : i < l.length := by have := (List.getElem?_eq_some_iff.1 hi).1; rwa [Rl_len] at this
   rw [Nat.zero_add, hc' _ (by rw [hl]; omega)]
   exact hx
  ·cases l with
   | nil => cases hb
   | cons x l => exact hb
def Cnt (l : List (Nat × Nat)) : Prop := ∀ r ∈ l, 1 ≤ r.2 ∧ r.2 ≤ 1073741824 ∧ r.1 ≤ 1073741824
theorem w_atOR {Q : Value → Hs → Prop} {h0 h : Hs} {S : List Nat} {m : List Th} (k : Nat) {hh : Hs} {v : Value} {l : List (Nat × Nat)} {i : Nat} {K : Value → An} (H : Sto h0 S h m) (hk : m[k]? = some (OR v l)) (hi : i < l.length) (hp : hh.hp = h.hp) (w : WP (K (.agg [Value.int .i64 (.ofNat l[i].1), .int .i64 (.ofNat l[i].2)].toArray)) Q) :
 WP (kIdxA 2 v (.int .i64 (.ofNat i)) (fun p => kLoads 2 p hh K)) Q := by
 have rd := H.rdOR k hk
 have H2 := Sto.enterR h [.rsl v 2 (Rl l)] (fun t ht => by rw [List.mem_singleton.1 ht]; exact ⟨rfl, rd.1, fun b hb => rd.2 b hb⟩)
 exact w_at 0 H2 rfl (Rl_get hi) hp rfl w
def CCounts (R : RnK) : Prop := ∀ (l : List (Nat × Nat)) (v : Value) (h : Hs), Cnt l → l.length ≤ 1000 → Rd h v 2 (Rl l) → WP (R 62 [v] h) fun v' h' => New h h' (OR v' l)
theorem counts_ok {R : RnK} {N : Nat} {l : List (Nat × Nat)} {v : Value} {h : Hs} (hN : 100000 < N) (hc : Cnt l) (hb : l.length ≤ 1000) (r : Rd h v 2 (Rl l)) : WP (r62 R N [v] h) fun v' h' => New h h' (OR v' l) := by
 unfold r62
 obtain ⟨a, c, rfl⟩ := r.1.formN (Rl_len l)
 have H := Sto.enter1 r
 have l1 := Rl_len l
 repeat' (first | (with_reducible refine w_jn ?_) | (with_reducible refine w_unC ?_) | (with_reducible refine w_enK ?_) | (with_reducible refine w_lenV ?_))
 replace H := H.nilS 87 2
 refine lp_ind (Good := fun n (self : L5) => ∀ (i : Nat) (y1 y2 y3 cur : Value) (m : List Th) (w : Hs), i + n = l.length → Sto h [] w (.osl cur 87 2 true i (Rc (l.take i)) :: .rsl (.slice a l.length c) 2 (Rl l) :: m) → WP (self (.int .i64 (.ofNat i)) y1 y2 y3 cur w) (fun v' h' => New h h' (OR v' l))) (fun n self ih i y1 y2 y3 cur m w hi H1 => ?_) N l.length (by omega) 0 _ _ _ _ [] _ (by omega) H
 clear H
 have H := H1
 clear H1
 obtain ⟨ac, cc, rfl⟩ := (show OwnSl w cur 87 2 _ _ _ from H.ok _ (List.mem_of_getElem? (i := 0) rfl)).form
 repeat' (first | (with_reducible refine w_jn ?_) | (with_reducible refine w_cndT ?_) | (with_reducible refine w_cndF ?_) | ((with_reducible refine w_lss_NN (fun _ => ?_) (fun _ => ?_)) <;> first | (exfalso; omega) | skip))
 ·have ii : i < l.length := by omega
  refine w_at 1 H rfl (Rl_get ii) rfl rfl ?_
  have rb := hc _ (List.getElem_mem ii)
  have tk : Rc (l.take (i + 1)) = Rc (l.take i) ++ [.int .i64 (.ofNat l[i].1), .int .i64 (.ofNat l[i].2)] := by
   rw [List.take_add_one, List.getElem?_eq_getElem ii]; exact Rc_snoc _ _
  repeat' (first | (with_reducible refine w_jn ?_) | (with_reducible refine w_cndT ?_) | (with_reducible refine w_gTt ?_) | (with_reducible refine w_pickT ?_) | (with_reducible refine w_fieldA ?_) | ((with_reducible refine w_alloc H ?_) ; (clear H; intro u H hu)) | ((with_reducible apply w_mkrow H) ; rfl; (clear H; intro u H hu; (try dsimp only [List.set_cons_zero, List.set_cons_succ, cellsL, List.toList_toArray, splice, ev, rep, List.cons_append, List.nil_append] at H))) | ((with_reducible refine w_leq_NN (fun _ => ?_) (fun _ => ?_)) <;> first | (exfalso; omega) | skip) | ((with_reducible refine w_geq_NN (fun _ => ?_) (fun _ => ?_)) <;> first | (exfalso; omega) | skip) | ((with_reducible apply w_load 0 H) ; rfl; rfl; rfl) | ((with_reducible apply w_storeV 0 H) ; rfl; rfl; rfl; omega; rfl; (clear H; intro u H hu; (try dsimp only [List.set_cons_zero, List.set_cons_succ, cellsL, List.toList_toArray, splice, ev, rep, List.cons_append, List.nil_append] at H))) | ((with_reducible apply w_loadsF 0 H) ; rfl; rfl; rfl))
  refine w_appendB 2 0 H rfl rfl rfl rfl (by omega) (by omega) fun v3 u4 H4 hn4 => ?_
  clear H
  have H := H4.tail.tail
  clear H4
  dsimp only [List.set_cons_zero, List.set_cons_succ] at H
  rw [show (Rc (l.take i) ++ [Value.int .i64 (.ofNat l[i].1), .int .i64 (.ofNat l[i].2)]) = Rc (l.take (i + 1)) from tk.symm] at H
  repeat' (first | ((with_reducible refine w_add_NN ?_ ?_) ; omega))
  exact ih (n - 1) (by omega) (i + 1) _ _ _ _ m _ (by omega) H
 ·obtain rfl : i = l.length := by omega
  rw [List.take_length] at H
  exact w_clrO 0 H rfl fun v' h' n => n
def runAt : List (Nat × Nat) → Nat → Option Nat
 | [], _ => none
 | r :: l, i => if i < r.2 then some (r.1 + i) else runAt l (i - r.2)
def CAt (R : RnK) : Prop := ∀ (l : List (Nat × Nat)) (i : Nat) (v : Value) (h : Hs), Cnt l → l.length ≤ 1000 → i ≤ 1099511627776 → Rd h v 2 (Rl l) → R 30 [v, .int .i64 (.ofNat i)] h = some (.val (.tuple #[.int .i64 (.ofNat ((runAt l i).getD 0)), .bool (runAt l i).isSome]) h)
theorem at_ok {R : RnK} {N : Nat} (cc : CCounts R) {l : List (Nat × Nat)} {i : Nat} {v : Value} {h : Hs} (hN : 100000 < N) (hc : Cnt l) (hb : l.length ≤ 1000) (hi : i ≤ 1099511627776) (r : Rd h v 2 (Rl l)) : r30 R N [v, .int .i64 (.ofNat i)] h = some (.val (.tuple #[.int .i64 (.ofNat ((runAt l i).getD 0)), .bool (runAt l i).isSome]) h) := by
 refine WP.eqn ?_
 unfold r30
 have H := Sto.enter1 r
 have l1 := Rl_len l
 repeat' (first | (with_reducible refine w_jn ?_) | (with_reducible refine w_cndF ?_) | (with_reducible refine w_unC ?_) | (with_reducible refine w_enK ?_) | ((with_reducible refine w_lss_NN (fun _ => ?_) (fun _ => ?_)) <;> first | (exfalso; omega) | skip))
 refine w_call (cc l v _ hc hb (H.rd 0 rfl)) fun v1 u1 n1 => ?_
 obtain ⟨a, c, rfl⟩ := n1.2.1.form
 replace H := H.call n1
 repeat' (first | (with_reducible refine w_jn ?_) | (with_reducible refine w_lenV ?_))
 refine lp_ind (Good := fun n (self : L7) => ∀ (k j : Nat) (y2 y3 y4 y5 y6 : Value) (m : List Th) (w : Hs), k + n = l.length → j ≤ 1099511627776 → runAt (l.drop k) j = runAt l i → Sto h [] w (OR (.slice a l.length c) l :: m) → WP (self (.int .i64 (.ofNat j)) (.int .i64 (.ofNat k)) y2 y3 y4 y5 y6 w) (fun v' h' => v' = .tuple #[.int .i64 (.ofNat ((runAt l i).getD 0)), .bool (runAt l i).isSome] ∧ h' = h)) (fun n self ih k j y2 y3 y4 y5 y6 m w hk hj hq H1 => ?_) N l.length (by omega) 0 i _ _ _ _ _ _ _ (by omega) hi rfl H
 clear H
 have H := H1
 clear H1
 repeat' (first | (with_reducible refine w_jn ?_) | (with_reducible refine w_cndT ?_) | (with_reducible refine w_cndF ?_) | ((with_reducible refine w_lss_NN (fun _ => ?_) (fun _ => ?_)) <;> first | (exfalso; omega) | skip))
 ·have ii : k < l.length := by omega
  refine w_atOR 0 H rfl ii rfl ?_
  have rb := hc _ (List.getElem_mem ii)
  rw [List.drop_eq_getElem_cons ii] at hq
  rw [show runAt (l[k] :: l.drop (k + 1)) j = if j < l[k].2 then some (l[k].1 + j) else runAt (l.drop (k + 1)) (j - l[k].2) from rfl] at hq
  repeat' (first | (with_reducible refine w_jn ?_) | (with_reducible refine w_cndT ?_) | (with_reducible refine w_cndF ?_) | (with_reducible refine w_fieldA ?_) | ((with_reducible refine w_alloc H ?_) ; (clear H; intro u H hu)) | ((with_reducible refine w_lss_NN (fun _ => ?_) (fun _ => ?_)) <;> first | (exfalso; omega) | skip) | ((with_reducible refine w_add_NN ?_ ?_) ; omega) | ((with_reducible refine w_sub_NN ?_ ?_ ?_) ; omega; omega) | ((with_reducible apply w_load 0 H) ; rfl; rfl; rfl) | ((with_reducible apply w_storeV 0 H) ; rfl; rfl; rfl; omega; rfl; (clear H; intro u H hu; (try dsimp only [List.set_cons_zero, List.set_cons_succ, cellsL, List.toList_toArray, splice, ev, rep, List.cons_append, List.nil_append] at H))))
  ·rw [if_pos (by assumption)] at hq
   rw [← hq]
   exact w_clr H rfl ⟨rfl, rfl⟩
  ·rw [if_neg (by assumption)] at hq
   exact ih (n - 1) (by omega) (k + 1) (j - l[k].2) _ _ _ _ _ m _ (by omega) (by omega) hq H.tail
 ·rw [List.drop_of_length_le (by omega)] at hq
  rw [← hq]
  exact w_clr H rfl ⟨rfl, rfl⟩
abbrev sV (D : List UInt8) : Value := .string ⟨D.toArray⟩
theorem w_sneqD {Q : Value → Hs → Prop} {a b : List UInt8} {K : Value → An} (ht : a ≠ b → WP (K (.bool true)) Q) (hf : a = b → WP (K (.bool false)) Q) : WP (obK K (s2 .neq (sV a) (sV b))) Q := by
 by_cases e : a = b
 ·exact w_sneq e (hf e)
 ·refine w_ob (v := .bool true) ?_ (ht e)
  show some (Value.bool (notB (eqL a.toArray.toList b.toArray.toList))) = _
  rw [eqL_eq]
  have : (a == b) = false := beq_eq_false_iff_ne.2 e
  simp [notB, this]
theorem w_seqD {Q : Value → Hs → Prop} {a b : List UInt8} {K : Value → An} (ht : a = b → WP (K (.bool true)) Q) (hf : a ≠ b → WP (K (.bool false)) Q) : WP (obK K (s2 .eql (sV a) (sV b))) Q := by
 by_cases e : a = b
 ·exact w_seq e (ht e)
 ·refine w_ob (v := .bool false) ?_ (hf e)
  show some (Value.bool (eqL a.toArray.toList b.toArray.toList)) = _
  rw [eqL_eq]
  have : (a == b) = false := beq_eq_false_iff_ne.2 e
  simp [this]
def CIdxB (R : RnK) : Prop := ∀ (D : List UInt8) (c : UInt8) (h : Hs), ∃ z : Int, (0 ≤ z ↔ c ∈ D) ∧ z ≤ D.length ∧ R 95 [sV D, .int .u8 (.ofNat c.toNat)] h = some (.val (.int .i64 z) h)
theorem findB_ok (c : UInt8) : ∀ (D : List UInt8) (k : Nat), (c ∈ D ∧ ∃ i, findB c.toNat D k = some i ∧ i ≤ k + D.length) ∨ (c ∉ D ∧ findB c.toNat D k = none) := by
 intro D
 induction D with
 | nil => intro k; exact .inr ⟨by simp, rfl⟩
 | cons x D ih =>
  intro k
  show (_ ∧ ∃ i, (match Nat.beq x.toNat c.toNat with | true => some k | false => findB c.toNat D (Nat.succ k)) = some i ∧ _) ∨ (_ ∧ (match Nat.beq x.toNat c.toNat with | true => some k | false => findB c.toNat D (Nat.succ k)) = none)
  by_cases e : x = c
  ·subst e
   rw [Nat.beq_refl]
   exact .inl ⟨List.mem_cons_self, k, rfl, by omega⟩
  ·have : Nat.beq x.toNat c.toNat = false := by rw [Bool.eq_false_iff]; exact fun h => e (UInt8.toNat_inj.1 (Nat.eq_of_beq_eq_true h))
   rw [this]
   rcases ih (k + 1) with ⟨h1, i, h2, h3⟩ | ⟨h1, h2⟩
   ·exact .inl ⟨List.mem_cons_of_mem _ h1, i, h2, by rw [List.length_cons]; omega⟩
   ·exact .inr ⟨fun h => by rcases List.mem_cons.1 h with h | h; exact e h.symm; exact h1 h, h2⟩
theorem idxB_ok {R : RnK} {N : Nat} {D : List UInt8} {c : UInt8} {h : Hs} : ∃ z : Int, (0 ≤ z ↔ c ∈ D) ∧ z ≤ D.length ∧ r95 R N [sV D, .int .u8 (.ofNat c.toNat)] h = some (.val (.int .i64 z) h) := by
 have hc := c.toNat_lt
 have H := Sto.enter h
 have go : ∀ x : Value, idxB1 (sV D) (.int .u8 (.ofNat c.toNat)) = some x → flatV x = true → r95 R N [sV D, .int .u8 (.ofNat c.toNat)] h = some (.val x h) := fun x hx fx => by
  refine WP.eqn ?_
  unfold r95
  refine w_unC ?_
  refine w_unC ?_
  refine w_enK ?_
  refine w_ret1 hx ?_
  exact w_clr H fx ⟨rfl, rfl⟩
 have e1 : idxB1 (sV D) (.int .u8 (.ofNat c.toNat)) = some (findV (findB c.toNat D 0)) := by
  show (match Nat.ble c.toNat 255 with | true => some (findV (findB c.toNat D.toArray.toList 0)) | false => none) = _
  rw [Nat.ble_eq_true_of_le (by omega)]
 rcases findB_ok c D 0 with ⟨h1, i, h2, h3⟩ | ⟨h1, h2⟩
 ·rw [h2] at e1
  exact ⟨(i : Int), ⟨fun _ => h1, fun _ => by omega⟩, by omega, go _ e1 rfl⟩
 ·rw [h2] at e1
  exact ⟨.negSucc 0, ⟨fun z => by omega, fun z => absurd z h1⟩, by omega, go _ e1 rfl⟩
theorem w_idxS0 {Q : Value → Hs → Prop} {c : UInt8} {en : En} {h : Hs} {K : KV} (w : WP (K (.int .u8 (.ofNat c.toNat)) h) Q) : WP (after K (oIdxS (.c (sV [c])) (.c (.int .i64 (.ofNat 0))) en h)) Q := w_ret1 rfl w
def CIndex (R : RnK) : Prop := ∀ (D : List UInt8) (c : UInt8) (h : Hs), D.length ≤ 9223372036854775807 → ∃ z : Int, (0 ≤ z ↔ c ∈ D) ∧ R 91 [sV D, sV [c]] h = some (.val (.int .i64 z) h)
theorem index_ok {R : RnK} {N : Nat} (cb : CIdxB R) {D : List UInt8} {c : UInt8} {h : Hs} (hD : D.length ≤ 9223372036854775807) : ∃ z : Int, (0 ≤ z ↔ c ∈ D) ∧ r91 R N [sV D, sV [c]] h = some (.val (.int .i64 z) h) := by
 have H := Sto.enter h
 have l1 : [c].length = 1 := rfl
 by_cases e0 : [c] = D
 ·refine ⟨.ofNat 0, ⟨fun _ => by rw [← e0]; exact List.mem_singleton.2 rfl, fun _ => by decide⟩, WP.eqn ?_⟩
  unfold r91
  repeat' (first | (with_reducible refine w_lenSt ?_) | (with_reducible refine w_jn ?_) | (with_reducible refine w_gFf ?_) | (with_reducible refine w_unC ?_) | (with_reducible refine w_enK ?_) | ((with_reducible refine w_eql_NN (fun _ => ?_) (fun _ => ?_)) <;> first | (exfalso; omega) | skip))
  refine w_seq e0 ?_
  repeat' (first | (with_reducible refine w_jn ?_) | (with_reducible refine w_cndT ?_) | (with_reducible refine w_pickF ?_))
  exact w_clr H rfl ⟨rfl, rfl⟩
 ·obtain ⟨z, z1, z2, z3⟩ := cb D c ⟨h.hp, h.nx, h.nx⟩
  refine ⟨z, z1, WP.eqn ?_⟩
  unfold r91
  repeat' (first | (with_reducible refine w_lenSt ?_) | (with_reducible refine w_jn ?_) | (with_reducible refine w_gFf ?_) | (with_reducible refine w_unC ?_) | (with_reducible refine w_enK ?_) | ((with_reducible refine w_eql_NN (fun _ => ?_) (fun _ => ?_)) <;> first | (exfalso; omega) | skip))
  refine w_seqD (fun e => absurd e e0) (fun _ => ?_)
  repeat' (first | (with_reducible refine w_jn ?_) | (with_reducible refine w_cndT ?_) | (with_reducible refine w_cndF ?_) | (with_reducible refine w_pickF ?_) | ((with_reducible refine w_eql_NN (fun _ => ?_) (fun _ => ?_)) <;> first | (exfalso; omega) | skip))
  refine w_idxS0 ?_
  refine w_callE z3 ?_
  exact w_clr H rfl ⟨rfl, rfl⟩
theorem sindex_ok {R : RnK} {N : Nat} (cb : CIndex R) {D : List UInt8} {c : UInt8} {h : Hs} (hD : D.length ≤ 9223372036854775807) : ∃ z : Int, (0 ≤ z ↔ c ∈ D) ∧ r84 R N [sV D, sV [c]] h = some (.val (.int .i64 z) h) := by
 obtain ⟨z, z1, z3⟩ := cb D c ⟨h.hp, h.nx, h.nx⟩ hD
 refine ⟨z, z1, WP.eqn ?_⟩
 have H := Sto.enter h
 unfold r84
 repeat' (first | (with_reducible refine w_unC ?_) | (with_reducible refine w_enK ?_))
 refine w_callE z3 ?_
 exact w_clr H rfl ⟨rfl, rfl⟩
def CSIndex (R : RnK) : Prop := ∀ (D : List UInt8) (c : UInt8) (h : Hs), D.length ≤ 9223372036854775807 → ∃ z : Int, (0 ≤ z ↔ c ∈ D) ∧ R 84 [sV D, sV [c]] h = some (.val (.int .i64 z) h)
def CContains (R : RnK) : Prop := ∀ (D : List UInt8) (c : UInt8) (h : Hs), D.length ≤ 9223372036854775807 → R 67 [sV D, sV [c]] h = some (.val (.bool (decide (c ∈ D))) h)
theorem contains_ok {R : RnK} {N : Nat} (cb : CSIndex R) {D : List UInt8} {c : UInt8} {h : Hs} (hD : D.length ≤ 9223372036854775807) : r67 R N [sV D, sV [c]] h = some (.val (.bool (decide (c ∈ D))) h) := by
 obtain ⟨z, z1, z3⟩ := cb D c ⟨h.hp, h.nx, h.nx⟩ hD
 refine WP.eqn ?_
 have H := Sto.enter h
 unfold r67
 repeat' (first | (with_reducible refine w_unC ?_) | (with_reducible refine w_enK ?_))
 refine w_callE z3 ?_
 repeat' (first | ((with_reducible refine w_geq_IN (fun _ => ?_) (fun _ => ?_)) <;> first | (exfalso; omega) | skip))
 ·exact w_clr H rfl ⟨by rw [decide_eq_true (z1.1 (by omega))], rfl⟩
 ·exact w_clr H rfl ⟨by rw [decide_eq_false fun q => by have := z1.2 q; omega], rfl⟩
def named (D : List UInt8) : Prop := 1 ≤ D.length ∧ D.length ≤ 40 ∧ D ≠ [46] ∧ D ≠ [46, 46] ∧ (47 : UInt8) ∉ D ∧ (0 : UInt8) ∉ D
instance (D : List UInt8) : Decidable (named D) := inferInstanceAs (Decidable (_ ∧ _ ∧ _ ∧ _ ∧ _ ∧ _))
def CNamed (R : RnK) : Prop := ∀ (D : List UInt8) (h : Hs), D.length ≤ 9223372036854775807 → R 39 [sV D] h = some (.val (.bool (decide (named D))) h)
theorem named_ok {R : RnK} {N : Nat} (cc : CContains R) {D : List UInt8} {h : Hs} (hD : D.length ≤ 9223372036854775807) : r39 R N [sV D] h = some (.val (.bool (decide (named D))) h) := by
 refine WP.eqn ?_
 have H := Sto.enter h
 have c1 : ∀ u, R 67 [sV D, .string ⟨#[47]⟩] u = some (.val (.bool (decide ((47 : UInt8) ∈ D))) u) := fun u => cc D 47 u hD
 have c2 : ∀ u, R 67 [sV D, .string ⟨#[0]⟩] u = some (.val (.bool (decide ((0 : UInt8) ∈ D))) u) := fun u => cc D 0 u hD
 unfold r39
 repeat' (first | (with_reducible refine w_lenSt ?_) | (with_reducible refine w_gTt ?_) | (with_reducible refine w_gTf ?_) | (with_reducible refine w_pickT ?_) | (with_reducible refine w_pickF ?_) | (with_reducible refine w_unC ?_) | (with_reducible refine w_enK ?_) | ((with_reducible refine w_leq_NN (fun _ => ?_) (fun _ => ?_)) <;> first | (exfalso; omega) | skip) | ((with_reducible refine w_geq_NN (fun _ => ?_) (fun _ => ?_)) <;> first | (exfalso; omega) | skip))
 ·refine w_sneqD (b := [46]) (fun e1 => ?_) (fun e1 => ?_)
  ·repeat' (first | (with_reducible refine w_gTt ?_) | (with_reducible refine w_pickT ?_))
   refine w_sneqD (b := [46, 46]) (fun e2 => ?_) (fun e2 => ?_)
   ·repeat' (first | ((refine w_callB (c1 _) (fun _ => ?_) (fun _ => ?_)) <;> first | (exfalso; omega) | skip))
    ·dsimp only [ev]
     repeat' (first | (with_reducible refine w_gTt ?_) | (with_reducible refine w_gTf ?_) | (with_reducible refine w_pickT ?_) | (with_reducible refine w_pickF ?_) | (with_reducible refine w_notT ?_))
     exact w_clr H rfl ⟨by rw [decide_eq_false fun q => absurd (by assumption) q.2.2.2.2.1], rfl⟩
    ·dsimp only [ev]
     repeat' (first | ((refine w_callB (c2 _) (fun _ => ?_) (fun _ => ?_)) <;> first | (exfalso; omega) | skip))
     ·dsimp only [ev]
      repeat' (first | (with_reducible refine w_gTt ?_) | (with_reducible refine w_pickT ?_) | (with_reducible refine w_notT ?_))
      exact w_clr H rfl ⟨by rw [decide_eq_false fun q => absurd (by assumption) q.2.2.2.2.2], rfl⟩
     ·dsimp only [ev]
      repeat' (first | (with_reducible refine w_gTt ?_) | (with_reducible refine w_pickT ?_) | (with_reducible refine w_notF ?_))
      exact w_clr H rfl ⟨by rw [decide_eq_true ⟨by omega, by omega, e1, e2, by assumption, by assumption⟩], rfl⟩
   ·repeat' (first | (with_reducible refine w_gTf ?_) | (with_reducible refine w_pickT ?_) | (with_reducible refine w_pickF ?_))
    exact w_clr H rfl ⟨by rw [decide_eq_false fun q => q.2.2.2.1 e2], rfl⟩
  ·repeat' (first | (with_reducible refine w_gTf ?_) | (with_reducible refine w_pickT ?_) | (with_reducible refine w_pickF ?_))
   exact w_clr H rfl ⟨by rw [decide_eq_false fun q => q.2.2.1 e1], rfl⟩
 ·exact w_clr H rfl ⟨by rw [decide_eq_false fun q => by have := q.2.1; omega], rfl⟩
 ·exact w_clr H rfl ⟨by rw [decide_eq_false fun q => by have := q.1; omega], rfl⟩
theorem w_idxSt {Q : Value → Hs → Prop} {D : List UInt8} {j : Nat} {en : En} {h : Hs} {K : KV} (hj : j < D.length) (w : WP (K (.int .u8 (.ofNat D[j].toNat)) h) Q) : WP (after K (oIdxS (.c (sV D)) (.c (.int .i64 (.ofNat j))) en h)) Q := by
 refine w_ret1 ?_ w
 show nthB D.toArray.toList j = _
 have : ∀ (D : List UInt8) (j : Nat) (hj : j < D.length), nthB D j = some (.int .u8 (.ofNat D[j].toNat)) := by
  intro D
  induction D with
  | nil => intro j hj; simp at hj
  | cons x D ih => intro j hj; cases j with
   | zero => rfl
   | succ j => exact ih j (by simpa using hj)
 exact this D j hj
def slotC (n : Int) (D : List UInt8) : List Value := [.int .i64 n, sV D]
abbrev slotV (n : Int) (D : List UInt8) : Value := .agg (slotC n D).toArray
def slotGood (n : Int) (D : List UInt8) : Prop := if n = 0 then D = [] else 1 ≤ n ∧ n ≤ 64 ∧ named D
instance (n : Int) (D : List UInt8) : Decidable (slotGood n D) := inferInstanceAs (Decidable (if n = 0 then D = [] else 1 ≤ n ∧ n ≤ 64 ∧ named D))
def CSlotGood (R : RnK) : Prop := ∀ (n : Int) (D : List UInt8) (h : Hs), D.length ≤ 9223372036854775807 → R 15 [slotV n D] h = some (.val (.bool (decide (slotGood n D))) h)
theorem slotGood_ok {R : RnK} {N : Nat} (cn : CNamed R) {n : Int} {D : List UInt8} {h : Hs} (hD : D.length ≤ 9223372036854775807) : r15 R N [slotV n D] h = some (.val (.bool (decide (slotGood n D))) h) := by
 refine WP.eqn ?_
 have H := Sto.enter h
 have cnd := fun u => cn D u hD
 unfold r15 slotV slotC
 have g0 : n = 0 → (slotGood n D ↔ D = []) := fun z => by unfold slotGood; rw [if_pos z]
 have g1 : ¬ n = 0 → (slotGood n D ↔ 1 ≤ n ∧ n ≤ 64 ∧ named D) := fun z => by unfold slotGood; rw [if_neg z]
 repeat' (first | ((refine w_callB (cnd _) (fun _ => ?_) (fun _ => ?_)) <;> first | (exfalso; omega) | skip) | (with_reducible refine w_jn ?_) | (with_reducible refine w_cndT ?_) | (with_reducible refine w_cndF ?_) | (with_reducible refine w_gTt ?_) | (with_reducible refine w_gTf ?_) | (with_reducible refine w_pickT ?_) | (with_reducible refine w_pickF ?_) | (with_reducible refine w_unC ?_) | (with_reducible refine w_enK ?_) | (with_reducible refine w_fieldA ?_) | ((with_reducible refine w_boxA H ?_) ; (clear H; intro u H hu)) | ((with_reducible refine w_leq_IN (fun _ => ?_) (fun _ => ?_)) <;> first | (exfalso; omega) | skip) | ((with_reducible refine w_geq_IN (fun _ => ?_) (fun _ => ?_)) <;> first | (exfalso; omega) | skip) | ((with_reducible refine w_eql_IN (fun _ => ?_) (fun _ => ?_)) <;> first | (exfalso; omega) | skip) | ((with_reducible apply w_load 0 H) ; rfl; rfl; rfl))
 ·refine w_seqD (b := []) (fun e => ?_) (fun e => ?_)
  ·exact w_clr H rfl ⟨by rw [decide_eq_true ((g0 (by assumption)).2 e)], rfl⟩
  ·exact w_clr H rfl ⟨by rw [decide_eq_false fun q => e ((g0 (by assumption)).1 q)], rfl⟩
 ·exact w_clr H rfl ⟨by rw [decide_eq_true ((g1 (by assumption)).2 ⟨by omega, by omega, by assumption⟩)], rfl⟩
 ·exact w_clr H rfl ⟨by rw [decide_eq_false fun q => absurd ((g1 (by assumption)).1 q).2.2 (by assumption)], rfl⟩
 ·exact w_clr H rfl ⟨by rw [decide_eq_false fun q => by have := ((g1 (by assumption)).1 q).2.1; omega], rfl⟩
 ·exact w_clr H rfl ⟨by rw [decide_eq_false fun q => by have := ((g1 (by assumption)).1 q).1; omega], rfl⟩
def slotS (D : List UInt8) (ws : List Nat) (k : Nat) : List Nat := ws.set (2 + k / 8) (ws.getD (2 + k / 8) 0 ||| (D.getD k 0).toNat * 2 ^ (8 * (k % 8)) % 18446744073709551616)
def slotTo (n : Nat) (D : List UInt8) (j : Nat) : List Nat := (List.range j).foldl (slotS D) [n, D.length, 0, 0, 0, 0, 0, 0]
theorem slotTo_succ (n : Nat) (D : List UInt8) (j : Nat) : slotTo n D (j + 1) = slotS D (slotTo n D j) j := by unfold slotTo; rw [List.range_succ, List.foldl_append]; rfl
theorem slotTo_len (n : Nat) (D : List UInt8) : ∀ j, (slotTo n D j).length = 8 := by
 intro j
 induction j with
 | zero => rfl
 | succ j ih => rw [slotTo_succ]; unfold slotS; rw [List.length_set, ih]
theorem slotTo_small {n : Nat} {D : List UInt8} (hn : n ≤ 64) (hD : D.length ≤ 40) : ∀ j, Small (slotTo n D j) := by
 intro j
 induction j with
 | zero =>
  intro x hx
  have : x ∈ [n, D.length, 0, 0, 0, 0, 0, 0] := hx
  simp only [List.mem_cons, List.not_mem_nil, or_false] at this
  omega
 | succ j ih => rw [slotTo_succ]; exact ih.set _ _ (or_lt (ih.getD _) (Nat.mod_lt _ (by omega)))
def slotW (n : Nat) (D : List UInt8) : List Nat := if n = 0 then List.replicate 8 0 else (slotTo n D D.length).set 7 (sealOf ((slotTo n D D.length).take 7))
def CSlotPut (R : RnK) : Prop := ∀ (n : Int) (D : List UInt8) (h : Hs), D.length ≤ 9223372036854775807 →
 (∀ m : Nat, n = (m : Int) → slotGood n D → WP (R 38 [slotV n D] h) fun v h' => New h h' (.osl v 39 1 true 8 (Wc (slotW m D)))) ∧
 (¬ slotGood n D → R 38 [slotV n D] h = some (.val (.slice none 0 0) h))
theorem slotPut_no {R : RnK} {N : Nat} (cg : CSlotGood R) {n : Int} {D : List UInt8} {h : Hs} (hD : D.length ≤ 9223372036854775807) (no : ¬ slotGood n D) : r38 R N [slotV n D] h = some (.val (.slice none 0 0) h) := by
 refine WP.eqn ?_
 have cgd := fun u => cg n D u hD
 unfold slotV slotC at cgd ⊢
 unfold r38
 have H := Sto.enter h
 repeat' (first | (with_reducible refine w_unC ?_) | (with_reducible refine w_enK ?_) | ((with_reducible refine w_boxA H ?_) ; (clear H; intro u H hu)) | ((with_reducible apply w_loadsF 0 H) ; rfl; rfl; rfl))
 refine w_callB (cgd _) (fun q => absurd q no) fun _ => ?_
 repeat' (first | (with_reducible refine w_jn ?_) | (with_reducible refine w_cndT ?_) | (with_reducible refine w_notF ?_))
 exact w_clr H rfl ⟨rfl, rfl⟩
theorem slotPut_ok {R : RnK} {N : Nat} (cg : CSlotGood R) (cs : CSealOf R) {m : Nat} {D : List UInt8} {h : Hs} (hN : 1000 < N) (hD : D.length ≤ 9223372036854775807) (g : slotGood (m : Int) D) : WP (r38 R N [slotV (m : Int) D] h) fun v h' => New h h' (.osl v 39 1 true 8 (Wc (slotW m D))) := by
 have cgd := fun u => cg (m : Int) D u hD
 unfold slotV slotC at cgd ⊢
 rw [show (Value.int .i64 (m : Int)) = .int .i64 (.ofNat m) from rfl] at *
 unfold r38
 have H := Sto.enter h
 refine w_unC ?_
 refine w_enK ?_
 refine w_boxA H ?_
 clear H; intro u1 H hu1
 repeat' (first | ((with_reducible apply w_loadsF 0 H) ; rfl; rfl; rfl))
 refine w_callB (cgd _) (fun _ => ?_) fun q => absurd g q
 repeat' (first | (with_reducible refine w_jn ?_) | (with_reducible refine w_cndT ?_) | (with_reducible refine w_cndF ?_) | (with_reducible refine w_notT ?_) | (with_reducible refine w_fieldA ?_) | ((with_reducible refine w_mkslice H ?_ ?_ ?_) ; omega; rfl; (clear H; intro u H hu)) | ((with_reducible refine w_eql_NN (fun _ => ?_) (fun _ => ?_)) <;> first | (exfalso; omega) | skip) | ((with_reducible apply w_load 1 H) ; rfl; rfl; rfl))
 ·have z : m = 0 := by omega
  have e : slotW m D = List.replicate 8 0 := if_pos z
  rw [e]
  rw [show rep [Value.int .u64 (.ofNat 0)] 8 = Wc (List.replicate 8 0) from rfl] at H
  have H2 := H.osl 0 rfl (n := 8) (c := 8) rfl (Nat.le_refl _)
  exact w_clrO 0 H2 rfl fun v' h' n => n
 ·have z : ¬ m = 0 := by omega
  unfold slotGood at g
  rw [if_neg (by omega)] at g
  obtain ⟨g1, g2, g3⟩ := g
  have dl := g3.2.1
  rw [show rep [Value.int .u64 (.ofNat 0)] 8 = Wc (List.replicate 8 0) from rfl] at H
  replace H := H.osl 0 rfl (n := 8) (c := 8) rfl (Nat.le_refl _)
  dsimp only [List.set_cons_zero] at H
  dsimp only
  have hu1' : u1.nx = h.nx + 1 := hu1
  have H0 := H
  refine w_lwC (c := u1.nx) (m1 := [_]) (m2 := [_]) rfl H (by omega) (fun t ht => by rw [List.mem_singleton.1 ht]; exact ⟨rfl, fun b hb => Nat.le_of_eq (Option.some.inj hb)⟩) fun hS e1 e2 H1 => ?_
  clear H
  have H := H1
  clear H1
  dsimp only [List.map_cons, List.map_nil, List.cons_append, List.nil_append, Th.ro] at H
  repeat' (first | (with_reducible refine w_fieldA ?_) | ((with_reducible refine w_toU ?_ ?_) ; omega) | ((with_reducible apply w_loadR 1 H) ; rfl; rfl; rfl))
  refine w_loadLM 1 (c := u1.nx) (hp := u.hp) rfl H e1 rfl (by omega) rfl ?_
  refine w_lenSt ?_
  repeat' (first | ((with_reducible refine w_toU ?_ ?_) ; omega))
  refine w_storeO 0 H rfl (by rw [Wc_len, List.length_replicate]; omega) rfl fun u2 H2 hu2 => ?_
  rw [Wc_set] at H2
  refine w_barC rfl H2 (by omega) ?_
  clear H
  have H := H2
  clear H2
  dsimp only [List.set_cons_zero] at H
  skip
  refine w_storeO 0 H rfl (by rw [Wc_len, List.length_set, List.length_replicate]; omega) rfl fun u3 H2 hu3 => ?_
  rw [Wc_set] at H2
  refine w_barC rfl H2 (by omega) ?_
  clear H
  have H := H2
  clear H2
  dsimp only [List.set_cons_zero] at H
  have p0 : ((List.replicate 8 0).set 0 m).set 1 D.length = slotTo m D 0 := rfl
  rw [p0] at H
  refine w_lwCE (m1 := [_]) (m1' := [_]) (m2 := [_]) (mr := [_]) H0 H (by omega) (by omega) (fun t ht => by rw [List.mem_singleton.1 ht]; rfl) (fun t ht b hb => by rw [List.mem_singleton.1 ht] at hb; have : h.nx = b := Option.some.inj hb; omega) fun u4 H4 hu4 => ?_
  clear H H0
  have H := H4
  clear H4
  dsimp only [List.cons_append, List.nil_append] at H
  repeat' (first | (with_reducible refine w_lenSt ?_) | (with_reducible refine w_jn ?_) | (with_reducible refine w_fieldA ?_) | ((with_reducible apply w_load 1 H) ; rfl; rfl; rfl))
  obtain ⟨m0, hm0, K0⟩ : ∃ m0, m0 = _ ∧ Sto h [] _ m0 := ⟨_, rfl, H⟩
  refine lp_ind (Good := fun n (self : L3) => ∀ (j : Nat) (y1 y2 : Value) (w : Hs), j + n = D.length → Sto h [] w (m0.set 0 (.osl (.slice (some ⟨u1.nx, 0, none⟩) 8 8) 39 1 true 8 (Wc (slotTo m D j)))) → WP (self (.int .i64 (.ofNat j)) y1 y2 w) (fun v h' => New h h' (.osl v 39 1 true 8 (Wc (slotW m D))))) (fun n self ih j y1 y2 w hj H1 => ?_) N D.length (by omega) 0 _ _ _ (by omega) (by rw [hm0]; exact H)
  clear H K0
  have hm1 := hm0
  rw [hm0] at H1
  have H := H1
  clear H1
  dsimp only [List.set_cons_zero, List.set_cons_succ] at H
  have pl := slotTo_len m D j
  have ps := slotTo_small (n := m) (D := D) (by omega) dl j
  repeat' (first | (with_reducible refine w_jn ?_) | (with_reducible refine w_cndT ?_) | (with_reducible refine w_cndF ?_) | ((with_reducible refine w_lss_NN (fun _ => ?_) (fun _ => ?_)) <;> first | (exfalso; omega) | skip) | ((with_reducible refine w_add_NN ?_ ?_) ; omega) | ((with_reducible refine w_quo_NN ?_ ?_ ?_) ; omega; omega))
  ·have jj : j < D.length := by omega
   have jw : 2 + j / 8 < (slotTo m D j).length := by omega
   have cb := D[j].toNat_lt
   have gw := ps _ (List.getElem_mem jw)
   have gd2 : (slotTo m D j).getD (2 + j / 8) 0 = (slotTo m D j)[2 + j / 8] := by rw [List.getD_eq_getElem?_getD, List.getElem?_eq_getElem jw]; rfl
   have gc : (D.getD j 0).toNat = D[j].toNat := by rw [List.getD_eq_getElem?_getD, List.getElem?_eq_getElem jj]; rfl
   refine w_atO 0 H rfl (Wc_get jw) rfl ?_
   repeat' (first | (with_reducible refine w_fieldA ?_) | ((with_reducible apply w_load 1 H) ; rfl; rfl; rfl))
   refine w_idxSt jj ?_
   refine w_blind ?_
   repeat' (first | ((with_reducible refine w_mul_NN ?_ ?_) ; omega) | ((with_reducible refine w_rem_NN ?_ ?_) ; omega) | ((with_reducible refine w_toU ?_ ?_) ; omega) | ((with_reducible refine w_shl ?_ ?_) ; omega) | ((with_reducible refine w_uor ?_ ?_ ?_) ; omega; omega))
   refine w_storeO 0 H rfl (by rw [Wc_len]; exact jw) rfl fun u' H2 hu' => ?_
   rw [Wc_set] at H2
   clear H; have H := H2; clear H2
   dsimp only [List.set_cons_zero, List.set_cons_succ] at H
   refine w_bar (by omega) ?_
   repeat' (first | ((with_reducible refine w_add_NN ?_ ?_) ; omega))
   refine ih (n - 1) (by omega) (j + 1) _ _ _ (by omega) ?_
   rw [hm1, slotTo_succ]
   unfold slotS
   rw [gd2, gc]
   exact H
  ·obtain rfl : j = D.length := by omega
   dsimp only
   refine w_slHB (by omega) ?_
   have rd := H.rdPO (n' := 7) 0 rfl (by omega)
   rw [Wl_ones2] at rd
   have st : Small ((slotTo m D D.length).take 7) := fun x hx => ps x (List.mem_of_mem_take hx)
   refine w_callE (cs ((slotTo m D D.length).take 7) _ _ st (by rw [List.length_take]; omega) rd) ?_
   refine w_storeO 0 H rfl (by rw [Wc_len]; omega) rfl fun u5 H5 hu5 => ?_
   rw [Wc_set] at H5
   have e3 : slotW m D = (slotTo m D D.length).set 7 (sealOf ((slotTo m D D.length).take 7)) := if_neg z
   rw [e3]
   exact w_clrO 0 H5 rfl fun v' h' n => n
end Go.Proofs.Ytmolikcajfphlaa.editSlots

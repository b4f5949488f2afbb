/- Contracts of functions, by the logic of residual programs. -/
import Derived.Test.YtmolikcajfphlaaEcB
namespace Go.Proofs.Ytmolikcajfphlaa.editClears
open Go Go.Gev
set_option linter.unusedVariables false
theorem w_slLHB {Q : Value → Hs → Prop} {h0 h : Hs} {S : List Nat} {m : List Th} (k : Nat) {b o n c u u' l hh e : Nat} {rw_ fl : Bool} {L : List Value} {k1 k2 : IntKind} {en : En} {K : KV} (H : Sto h0 S h m) (hk : m[k]? = some (.blk b (.row e u' rw_ fl L))) (hu : u' = 0 ∨ u' = u) (hl : l < hh) (hc : hh ≤ c) (w : WP (K (.slice (some ⟨b, o + l * u, none⟩) (hh - l) (c - l)) h) Q) :
 WP (after K (oSlice u (.c (.slice (some ⟨b, o, none⟩) n c)) (some (.c (.int k1 (.ofNat l)))) (some (.c (.int k2 (.ofNat hh)))) none en h)) Q := by
 obtain ⟨cs, f, hb, _, _⟩ := H.ok _ (List.mem_of_getElem? hk)
 refine w_rs (v := .slice (some ⟨b, o + l * u, none⟩) (hh - l) (c - l)) (h := h) ?_ w
 show ret1 h (slice3 h u en (some ⟨b, o, none⟩) (some (.c (.int k1 (.ofNat l)))) c (bnd en n c (some (.c (.int k2 (.ofNat hh)))))) = _
 rw [show bnd en n c (some (.c (.int k2 (.ofNat hh)))) = some hh from top1_ok (k := k2) hc]
 show ret1 h (match bnd en 0 hh (some (.c (.int k1 (.ofNat l)))) with | none => none | some l => cutA h u l hh c (some ⟨b, o, none⟩)) = _
 rw [show bnd en 0 hh (some (.c (.int k1 (.ofNat l)))) = some l from top1_ok (k := k1) (by omega)]
 show ret1 h (match Nat.beq l 0 with | true => some (Value.slice (some ⟨b, o, none⟩) hh c) | false => match Nat.beq hh l with | true => some (Value.slice (some ⟨b, o, some 0⟩) 0 0) | false => match unitOk u (h.hp.get b) with | true => some (Value.slice (some ⟨b, Nat.add o (Nat.mul l u), none⟩) (Nat.sub hh l) (Nat.sub c l)) | false => none) = _
 cases hz : Nat.beq l 0 with
 | true =>
  have : l = 0 := beq_iff.1 hz
  subst this
  rw [Nat.zero_mul, Nat.add_zero, Nat.sub_zero, Nat.sub_zero]; rfl
 | false =>
  rw [beq_false.2 (show hh ≠ l by omega), hb]
  have uk : unitOk u (some (Blk.row cs L.length e u' rw_ f)) = true := by
   show orB (Nat.beq u' 0) (Nat.beq u' u) = true
   rcases hu with q | q
   ·rw [q]; rfl
   ·rw [q, Nat.beq_refl]; cases Nat.beq u 0 <;> rfl
  rw [uk]; rfl
def edC (g : Geo) (s s0 : Value) : List Value := [.int .i64 (.ofNat g.b), .int .i64 (.ofNat g.n), .int .i64 (.ofNat g.c), .int .i64 (.ofNat g.k), s, .int .i64 (.ofNat g.b), .int .i64 (.ofNat g.n), .int .i64 (.ofNat g.c), .int .i64 (.ofNat g.k), s0]
abbrev edO (g : Geo) (fl : Bool) (b c : Nat) (s0 : Value) : Gev.Obj := .row 49 0 true fl (edC g (.slice (some ⟨b, 0, none⟩) (8 * g.b) c) s0)
abbrev wdO (W : List Nat) : Gev.Obj := .row 39 1 true false (Wc W)
structure EdAt (h : Hs) (g : Geo) (p b c : Nat) (s0 : Value) (W : List Nat) : Prop where
 ok : g.Ok
 pl : p < h.nx
 bl : b < h.nx
 ne : p ≠ b
 cap : 8 * g.b ≤ c
 len : W.length = 8 * g.b
 sm : Small W
 row : ∃ fl, Holds (h.hp.get p) (edO g fl b c s0)
 wds : Holds (h.hp.get b) (wdO W)
abbrev pV (p : Nat) : Value := .pointer (some ⟨p, 0, none⟩)
theorem _root_.Go.Gev.Sto.neO {h0 h : Hs} {S : List Nat} {m : List Th} {i j b p : Nat} {o o' : Gev.Obj} (H : Sto h0 S h m) (hi : m[i]? = some (.blk b o)) (hj : m[j]? = some (.rob p o')) : p ≠ b := fun e => H.dj i j _ _ hi hj (fun q => by rw [q, hj] at hi; cases hi) rfl b rfl (by rw [← e]; rfl)
theorem EdAt.enter {h : Hs} {g : Geo} {p b c : Nat} {s0 : Value} {W : List Nat} (E : EdAt h g p b c s0 W) (m : List Th) (hm : ∀ t ∈ m, t.ex = false ∧ t.body h ∧ ∀ b', t.id = some b' → b' < h.nx ∧ b' ≠ b) : ∃ fl, Sto h [b] ⟨h.hp, h.nx, h.nx⟩ (.blk b (wdO W) :: .rob p (edO g fl b c s0) :: m) := by
 obtain ⟨fl, hr⟩ := E.row
 refine ⟨fl, Sto.enterM _ E.wds E.bl fun t ht => ?_⟩
 rcases List.mem_cons.1 ht with rfl | ht
 ·exact ⟨rfl, hr, fun b' hb' => by injection hb' with e; subst e; exact ⟨E.pl, E.ne⟩⟩
 ·exact hm t ht
theorem EdAt.of {h0 h : Hs} {S : List Nat} {m : List Th} {g : Geo} {p b c : Nat} {s0 : Value} {W : List Nat} {fl : Bool} (i j : Nat) (H : Sto h0 S h m) (hi : m[i]? = some (.blk b (wdO W))) (hj : m[j]? = some (.rob p (edO g fl b c s0))) (x : g.Ok) (hc : 8 * g.b ≤ c) (hl : W.length = 8 * g.b) (sm : Small W) : EdAt h g p b c s0 W :=
 ⟨x, (H.ids _ (List.mem_of_getElem? hj) p rfl).1, H.lt i hi, H.neO hi hj, hc, hl, sm, ⟨fl, H.ok _ (List.mem_of_getElem? hj)⟩, H.ok _ (List.mem_of_getElem? hi)⟩
theorem EdAt.ofB {h0 h : Hs} {S : List Nat} {m : List Th} {g : Geo} {p b c : Nat} {s0 : Value} {W : List Nat} {fl : Bool} (i j : Nat) (H : Sto h0 S h m) (hi : m[i]? = some (.blk b (wdO W))) (hj : m[j]? = some (.blk p (edO g fl b c s0))) (hij : i ≠ j) (x : g.Ok) (hc : 8 * g.b ≤ c) (hl : W.length = 8 * g.b) (sm : Small W) : EdAt h g p b c s0 W :=
 ⟨x, H.lt j hj, H.lt i hi, fun e => H.ne hi hj hij e.symm, hc, hl, sm, ⟨fl, H.ok _ (List.mem_of_getElem? hj)⟩, H.ok _ (List.mem_of_getElem? hi)⟩
def RdX (h : Hs) (v : Value) (u : Nat) (L : List (List Value)) (b : Nat) : Prop := Rd h v u L ∧ Th.id (.rsl v u L) ≠ some b
theorem RdX.th {h : Hs} {v : Value} {u : Nat} {L : List (List Value)} {b : Nat} (r : RdX h v u L b) : (Th.rsl v u L).ex = false ∧ (Th.rsl v u L).body h ∧ ∀ b', (Th.rsl v u L).id = some b' → b' < h.nx ∧ b' ≠ b := ⟨rfl, r.1.1, fun b' hb' => ⟨r.1.2 b' hb', fun e => r.2 (by rw [← e]; exact hb')⟩⟩
def QW (h : Hs) (b : Nat) (v : Value) (W : List Nat) (r : Value) (h' : Hs) : Prop := r = v ∧ Mut h h' b ∧ Holds (h'.hp.get b) (wdO W)
def CEdPut (R : RnK) : Prop := ∀ (h : Hs) (g : Geo) (p b c : Nat) (s0 : Value) (W : List Nat) (at_ : Nat) (ws : List Nat) (v : Value), EdAt h g p b c s0 W → at_ < g.b → ws.length ≤ 8 → RdX h v 1 (Wl ws) b →
 WP (R 25 [pV p, .int .i64 (.ofNat at_), v] h) (QW h b (.tuple #[]) (putW W (8 * at_) ws))
theorem edPut_ok {R : RnK} {N : Nat} {h : Hs} {g : Geo} {p b c : Nat} {s0 : Value} {W : List Nat} {at_ : Nat} {ws : List Nat} {v : Value} (E : EdAt h g p b c s0 W) (ha : at_ < g.b) (hw : ws.length ≤ 8) (r : RdX h v 1 (Wl ws) b) :
 WP (r25 R N [pV p, .int .i64 (.ofNat at_), v] h) (QW h b (.tuple #[]) (putW W (8 * at_) ws)) := by
 unfold r25
 obtain ⟨fl, H⟩ := E.enter [.rsl v 1 (Wl ws)] (fun t ht => by rw [List.mem_singleton.1 ht]; exact r.th)
 have h1 := E.ok.1.b2
 have h2 := E.len
 have h3 := E.cap
 unfold edO edC at H
 repeat' (first | (with_reducible refine w_unC ?_) | (with_reducible refine w_enK ?_) | (with_reducible refine w_fieldA ?_) | (with_reducible refine w_nil ?_) | ((with_reducible refine w_add_NN ?_ ?_) ; omega) | ((with_reducible refine w_mul_NN ?_ ?_) ; omega) | ((with_reducible apply w_loadR 1 H) ; rfl; rfl; rfl))
 refine w_slLHB 0 H rfl (.inr rfl) (by omega) (by omega) ?_
 have e1 := Wl_len ws
 have e2 : min (Wl ws).length (8 * (at_ + 1) - 8 * at_) = ws.length := by omega
 refine w_copy 0 2 H rfl rfl (by omega) (by rw [Wl_flat]; exact Wc_one ws) (by rw [e2, Wc_len]; omega) fun h' H' _ => ?_
 rw [e2, List.take_of_length_le (by omega), Wl_flat, Wc_flatL, show 0 + 8 * at_ * 1 = 8 * at_ from by omega, setL_putW] at H'
 exact w_clrM 0 H' rfl E.bl rfl fun h'' a b => ⟨rfl, a, b⟩
def setRun (B : List Nat) (yes : Bool) (r j : Nat) : List Nat := (List.range j).foldl (fun l i => setBit l yes ((r + i : Nat) : Int)) B
def setRuns (B : List Nat) (yes : Bool) (rs : List (Nat × Nat)) : List Nat := rs.foldl (fun l r => setRun l yes r.1 r.2) B
theorem setRun_succ (B : List Nat) (yes : Bool) (r j : Nat) : setRun B yes r (j + 1) = setBit (setRun B yes r j) yes ((r + j : Nat) : Int) := by unfold setRun; rw [List.range_succ, List.foldl_append]; rfl
theorem setRun_len (B : List Nat) (yes : Bool) (r : Nat) : ∀ j, (setRun B yes r j).length = B.length := by
 intro j
 induction j with
 | zero => rfl
 | succ j ih => rw [setRun_succ, setBit_len, ih]
theorem setRun_small {B : List Nat} (h : Small B) (yes : Bool) (r : Nat) : ∀ j, Small (setRun B yes r j) := by
 intro j
 induction j with
 | zero => exact h
 | succ j ih => rw [setRun_succ]; exact setBit_small ih _ _
theorem setRuns_snoc (B : List Nat) (yes : Bool) (rs : List (Nat × Nat)) (r : Nat × Nat) : setRuns B yes (rs ++ [r]) = setRun (setRuns B yes rs) yes r.1 r.2 := by unfold setRuns; rw [List.foldl_append]; rfl
theorem setRuns_len (yes : Bool) (rs : List (Nat × Nat)) : ∀ B : List Nat, (setRuns B yes rs).length = B.length := by
 induction rs with
 | nil => intro B; rfl
 | cons r rs ih => intro B; show (setRuns (setRun B yes r.1 r.2) yes rs).length = _; rw [ih, setRun_len]
theorem setRuns_small (yes : Bool) (rs : List (Nat × Nat)) : ∀ {B : List Nat}, Small B → Small (setRuns B yes rs) := by
 induction rs with
 | nil => intro B h; exact h
 | cons r rs ih => intro B h; exact ih (setRun_small h yes r.1 r.2)
def bitsW (g : Geo) (W : List Nat) : List Nat := (W.drop (8 * g.bitsAt)).take (8 * g.bitsN)
theorem putW_put (W l : List Nat) (o i : Nat) (hl : 8 * i + 8 ≤ l.length) (ho : o + l.length ≤ W.length) : putW (putW W o (l.take (8 * i))) (o + 8 * i) ((l.drop (8 * i)).take 8) = putW W o (l.take (8 * (i + 1))) := by
 unfold putW
 have e1 : (l.take (8 * i)).length = 8 * i := by rw [List.length_take]; omega
 have e2 : ((l.drop (8 * i)).take 8).length = 8 := by rw [List.length_take, List.length_drop]; omega
 have e3 : (l.take (8 * (i + 1))).length = 8 * (i + 1) := by rw [List.length_take]; omega
 rw [e1, e2, e3]
 have e4 : (W.take o ++ l.take (8 * i)).length = o + 8 * i := by rw [List.length_append, List.length_take, e1]; omega
 have d1 : (W.take o ++ l.take (8 * i) ++ W.drop (o + 8 * i)).take (o + 8 * i) = W.take o ++ l.take (8 * i) := List.take_left' e4
 have d2 : (W.take o ++ l.take (8 * i) ++ W.drop (o + 8 * i)).drop (o + 8 * i + 8) = W.drop (o + 8 * i + 8) := by
  rw [List.drop_append, List.drop_of_length_le (by omega), e4, List.nil_append, List.drop_drop]
  congr 1; omega
 rw [d1, d2, show 8 * (i + 1) = 8 * i + 8 by omega, List.take_add, List.append_assoc, List.append_assoc, List.append_assoc, List.append_assoc, Nat.add_assoc]
theorem putW_nil (W : List Nat) (o : Nat) : putW W o [] = W := by unfold putW; simp
theorem putW_small {W ws : List Nat} {o : Nat} (h : Small W) (h2 : Small ws) : Small (putW W o ws) := fun x hx => by
 unfold putW at hx
 rcases List.mem_append.1 hx with hx | hx
 ·rcases List.mem_append.1 hx with hx | hx
  ·exact h x (List.mem_of_mem_take hx)
  ·exact h2 x hx
 ·exact h x (List.mem_of_mem_drop hx)
def markW (g : Geo) (W : List Nat) (yes : Bool) (rs : List (Nat × Nat)) : List Nat := putW W (8 * g.bitsAt) (setRuns (bitsW g W) yes rs)
def CMark (R : RnK) : Prop := ∀ (h : Hs) (g : Geo) (p b c : Nat) (s0 : Value) (W : List Nat) (yes : Bool) (rs : List (Nat × Nat)) (v : Value), EdAt h g p b c s0 W → rs.length ≤ 1000 → (∀ r ∈ rs, r.1 ≤ 100000 ∧ r.2 ≤ 100000) → RdX h v 2 (Rl rs) b →
 WP (R 24 [pV p, .bool yes, v] h) (QW h b (.tuple #[]) (markW g W yes rs))
theorem mark_ok {R : RnK} {N : Nat} (cb : CImgBits R) (cs : CBitsSet R) (cbf : CBitsF R) (cp : CEdPut R) {h : Hs} {g : Geo} {p b c : Nat} {s0 : Value} {W : List Nat} {yes : Bool} {rs : List (Nat × Nat)} {v : Value} (hN : 200000 < N) (E : EdAt h g p b c s0 W) (hr : rs.length ≤ 1000) (hm : ∀ r ∈ rs, r.1 ≤ 100000 ∧ r.2 ≤ 100000) (r : RdX h v 2 (Rl rs) b) :
 WP (r24 R N [pV p, .bool yes, v] h) (QW h b (.tuple #[]) (markW g W yes rs)) := by
 have cbg := cb g W (.slice (some ⟨b, 0, none⟩) (8 * g.b) c)
 have cbfg := cbf g
 unfold r24
 unfold imgV at cbg
 unfold Geo.v at cbfg
 obtain ⟨av, cv, rfl⟩ := r.1.1.formN (Rl_len rs)
 obtain ⟨fl, H⟩ := E.enter [.rsl (.slice av rs.length cv) 2 (Rl rs)] (fun t ht => by rw [List.mem_singleton.1 ht]; exact r.th)
 have x := E.ok
 have h1 := x.1.b2
 have h2 := E.len
 have h3 := E.cap
 have h4 := x.1.num
 have h5 := x.2
 have l1 := Rl_len rs
 have bw : (bitsW g W).length = 8 * g.bitsN := by unfold bitsW; rw [List.length_take, List.length_drop]; omega
 have bs : Small (bitsW g W) := fun x hx => E.sm x (List.mem_of_mem_drop (List.mem_of_mem_take hx))
 unfold edO edC at H
 repeat' (first | (with_reducible refine w_unC ?_) | (with_reducible refine w_enK ?_) | (with_reducible refine w_fieldA ?_) | (with_reducible refine w_nil ?_) | ((with_reducible apply w_loadsR 1 H) ; rfl; rfl; rfl; rfl; (try dsimp only [List.drop_zero, List.drop_succ_cons, List.take_succ_cons, List.take_zero])))
 refine w_call (cbg _ x h2 (by rw [Wl_ones]; exact H.rdB 0 rfl (by rw [Wc_len]; omega) (by omega))) fun v1 u1 n1 => ?_
 obtain ⟨s1, rfl, n1⟩ := n1
 rw [show (W.drop (8 * g.bitsAt)).take (8 * g.bitsN) = bitsW g W from rfl] at n1
 replace n1 := n1.ones
 rw [← Wl_ones] at n1
 obtain ⟨a1, c1, rfl⟩ := n1.2.1.formN ((Wl_len _).trans bw)
 replace H := H.call n1
 repeat' (first | (with_reducible refine w_jn ?_) | (with_reducible refine w_lenV ?_) | (with_reducible refine w_st1A ?_) | ((with_reducible refine w_alloc H ?_) ; (clear H; intro u H hu)) | ((with_reducible apply w_storeV 0 H) ; rfl; rfl; rfl; omega; rfl; (clear H; intro u H hu; (try dsimp only [List.set_cons_zero, List.set_cons_succ, cellsL, List.toList_toArray, splice, ev, rep, List.cons_append, List.nil_append] at H))))
 replace H := H.unfl 0 rfl
 dsimp only [List.set_cons_zero] at H
 obtain ⟨m0, hm0, H0⟩ : ∃ m0, m0 = _ ∧ Sto h [b] _ m0 := ⟨_, rfl, H⟩
 refine lp_ind (Good := fun n (self : L7) => ∀ (i : Nat) (y1 y2 y3 y4 y5 y6 : Value) (w : Hs) (a : Option Addr) (c' : Nat), i + n = rs.length → Sto h [b] w ((m0.set 0 (.blk u1.nx (.row 78 0 true false [.slice a (8 * g.bitsN) c']))).set 1 (.rsl (.slice a (8 * g.bitsN) c') 1 (Wl (setRuns (bitsW g W) yes (rs.take i))))) → WP (self (.int .i64 (.ofNat i)) y1 y2 y3 y4 y5 y6 w) (QW h b (.tuple #[]) (markW g W yes rs))) (fun n self ih i y1 y2 y3 y4 y5 y6 w a c' hi H1 => ?_) N rs.length (by omega) 0 _ _ _ _ _ _ _ a1 c1 (by omega) (by rw [hm0]; exact H)
 clear H0 H
 have hm1 := hm0
 rw [hm0] at H1
 have H := H1
 clear H1
 dsimp only [List.set_cons_zero, List.set_cons_succ] at H
 repeat' (first | (with_reducible refine w_jn ?_) | (with_reducible refine w_cndT ?_) | (with_reducible refine w_cndF ?_) | (with_reducible refine w_fieldA ?_) | (with_reducible refine w_nil ?_) | ((with_reducible refine w_lss_NN (fun _ => ?_) (fun _ => ?_)) <;> first | (exfalso; omega) | skip) | ((with_reducible apply w_loadsR 3 H) ; rfl; rfl; rfl; rfl; (try dsimp only [List.drop_zero, List.drop_succ_cons, List.take_succ_cons, List.take_zero])))
 ·have ii : i < rs.length := by omega
  refine w_at 4 H rfl (Rl_get ii) rfl rfl ?_
  have rb := hm _ (List.getElem_mem ii)
  have tk : rs.take (i + 1) = rs.take i ++ [rs[i]] := by rw [List.take_add_one, List.getElem?_eq_getElem ii]; rfl
  repeat' (first | (with_reducible refine w_jn ?_) | (with_reducible refine w_fieldA ?_) | ((with_reducible refine w_alloc H ?_) ; (clear H; intro u H hu)) | ((with_reducible apply w_load 0 H) ; rfl; rfl; rfl) | ((with_reducible apply w_storeV 0 H) ; rfl; rfl; rfl; omega; rfl; (clear H; intro u H hu; (try dsimp only [List.set_cons_zero, List.set_cons_succ, cellsL, List.toList_toArray, splice, ev, rep, List.cons_append, List.nil_append] at H))))
  generalize hB : setRuns (bitsW g W) yes (rs.take i) = B at H
  have bl : B.length = 8 * g.bitsN := by rw [← hB, setRuns_len, bw]
  have bsm : Small B := by rw [← hB]; exact setRuns_small _ _ bs
  obtain ⟨k0, hk0, K0⟩ : ∃ k0, k0 = _ ∧ Sto h [b] _ k0 := ⟨_, rfl, H⟩
  refine lp_ind (Good := fun n2 (self2 : L3) => ∀ (j : Nat) (z1 z2 : Value) (w2 : Hs) (a : Option Addr) (c' : Nat), j + n2 = rs[i].2 → Sto h [b] w2 ((k0.set 1 (.blk u1.nx (.row 78 0 true false [.slice a (8 * g.bitsN) c']))).set 2 (.rsl (.slice a (8 * g.bitsN) c') 1 (Wl (setRun B yes rs[i].1 j)))) → WP (self2 (.int .i64 (.ofNat j)) z1 z2 w2) (QW h b (.tuple #[]) (markW g W yes rs))) (fun n2 self2 ih2 j z1 z2 w2 a c' hj H2 => ?_) N rs[i].2 (by omega) 0 _ _ _ a c' (by omega) (by rw [hk0]; exact H)
  clear K0 H
  have hk1 := hk0
  rw [hk0] at H2
  have H := H2
  clear H2
  dsimp only [List.set_cons_zero, List.set_cons_succ] at H
  have sl := setRun_len B yes rs[i].1 j
  have ss := setRun_small bsm yes rs[i].1 j
  repeat' (first | (with_reducible refine w_jn ?_) | (with_reducible refine w_cndT ?_) | (with_reducible refine w_cndF ?_) | (with_reducible refine w_fieldA ?_) | ((with_reducible apply w_mkrow H) ; rfl; (clear H; intro u H hu; (try dsimp only [List.set_cons_zero, List.set_cons_succ, cellsL, List.toList_toArray, splice, ev, rep, List.cons_append, List.nil_append] at H))) | ((with_reducible refine w_lss_NN (fun _ => ?_) (fun _ => ?_)) <;> first | (exfalso; omega) | skip) | ((with_reducible refine w_add_NN ?_ ?_) ; omega) | ((with_reducible apply w_load 0 H) ; rfl; rfl; rfl) | ((with_reducible apply w_loadsF 1 H) ; rfl; rfl; rfl))
  ·have le1 : ∀ q ∈ [((rs[i].1 + j : Nat) : Int)], q ≤ 9223372036854775807 := by
    intro q hq
    simp only [List.mem_singleton] at hq
    omega
   have bst : setRun B yes rs[i].1 (j + 1) = setBits (setRun B yes rs[i].1 j) yes [((rs[i].1 + j : Nat) : Int)] := setRun_succ _ _ _ _
   refine w_call (cs (setRun B yes rs[i].1 j) yes [((rs[i].1 + j : Nat) : Int)] _ _ _ ss (by omega) (by simp) le1 (H.rd 3 rfl) (H.rdB (L := [.int .i64 (.ofNat (rs[i].1 + j))]) (n := 1) (c := 1) 0 rfl rfl (Nat.le_refl _))) fun v6 u6 n6 => ?_
   obtain ⟨s6, rfl, n6⟩ := n6
   rw [← bst] at n6
   unfold OW at n6
   rw [setRun_len, bl] at n6
   obtain ⟨a6, c6, rfl⟩ := n6.2.1.form
   replace n6 := n6.ones
   rw [← Wl_ones] at n6
   replace H := H.call n6
   repeat' (first | (with_reducible refine w_st1A ?_) | ((with_reducible refine w_add_NN ?_ ?_) ; omega) | ((with_reducible apply w_storeV 3 H) ; rfl; rfl; rfl; omega; rfl; (clear H; intro u H hu; (try dsimp only [List.set_cons_zero, List.set_cons_succ, cellsL, List.toList_toArray, splice, ev, rep, List.cons_append, List.nil_append] at H))))
   replace H := H.sel [2, 3, 0, 5, 6, 7] 8 rfl (by decide) (by decide); dsimp only [List.filterMap_cons, List.filterMap_nil, List.getElem?_cons_zero, List.getElem?_cons_succ] at H
   replace H := H.unfl 1 rfl
   dsimp only [List.set_cons_zero, List.set_cons_succ] at H
   refine ih2 (n2 - 1) (by omega) (j + 1) _ _ _ a6 c6 (by omega) ?_
   rw [hk1]
   exact H
  ·rw [show j = rs[i].2 by omega] at H
   refine ih (n - 1) (by omega) (i + 1) _ _ _ _ _ _ _ a c' (by omega) ?_
   rw [hm1, tk, setRuns_snoc, hB]
   exact H.tail
 ·have ie : i = rs.length := by omega
  rw [ie, List.take_length] at H
  clear ih hm0
  have fl2 := setRuns_len yes rs (bitsW g W)
  have fs2 := setRuns_small yes rs bs
  generalize hB : setRuns (bitsW g W) yes rs = B at H fl2 fs2
  have mk : markW g W yes rs = putW W (8 * g.bitsAt) B := by unfold markW; rw [hB]
  rw [mk]
  skip
  refine w_callE (cbfg _ x) ?_
  repeat' (first | (with_reducible refine w_jn ?_) | ((with_reducible apply w_extr) ; rfl))
  obtain ⟨k0, hk0, K0⟩ : ∃ k0, k0 = _ ∧ Sto h [b] _ k0 := ⟨_, rfl, H⟩
  refine lp_ind (Good := fun n2 (self2 : L3) => ∀ (j : Nat) (z1 z2 : Value) (w2 : Hs), j + n2 = g.bitsN → Sto h [b] w2 (k0.set 2 (.blk b (wdO (putW W (8 * g.bitsAt) (B.take (8 * j)))))) → WP (self2 (.int .i64 (.ofNat j)) z1 z2 w2) (QW h b (.tuple #[]) (putW W (8 * g.bitsAt) B))) (fun n2 self2 ih2 j z1 z2 w2 hj H2 => ?_) N g.bitsN (by omega) 0 _ _ _ (by omega) (by rw [hk0, show B.take (8 * 0) = [] from rfl, putW_nil]; exact H)
  clear K0 H
  have hk1 := hk0
  rw [hk0] at H2
  have H := H2
  clear H2
  dsimp only [List.set_cons_zero, List.set_cons_succ] at H
  repeat' (first | (with_reducible refine w_jn ?_) | (with_reducible refine w_cndT ?_) | (with_reducible refine w_cndF ?_) | (with_reducible refine w_fieldA ?_) | ((with_reducible refine w_lss_NN (fun _ => ?_) (fun _ => ?_)) <;> first | (exfalso; omega) | skip) | ((with_reducible refine w_add_NN ?_ ?_) ; omega) | ((with_reducible refine w_mul_NN ?_ ?_) ; omega) | ((with_reducible apply w_load 0 H) ; rfl; rfl; rfl))
  ·refine w_slLH 1 H rfl (by omega) (by rw [Wl_len]; omega) fun s H1 => ?_
   clear H
   have H := H1
   clear H1
   rw [Wl_drop, Wl_take, show 8 * (j + 1) - 8 * j = 8 by omega] at H
   have pl : (putW W (8 * g.bitsAt) (B.take (8 * j))).length = 8 * g.b := by rw [putW_len (by rw [List.length_take]; omega), h2]
   have ps : Small (putW W (8 * g.bitsAt) (B.take (8 * j))) := putW_small E.sm fun x hx => fs2 x (List.mem_of_mem_take hx)
   refine w_call (cp _ g p b c s0 _ (g.bitsAt + j) ((B.drop (8 * j)).take 8) s (EdAt.of 3 4 H rfl rfl x h3 pl ps) (by omega) (by rw [List.length_take]; omega) ⟨H.rd 0 rfl, H.neR (i := 3) (j := 0) rfl rfl (by decide)⟩) fun v2 u2 q => ?_
   obtain ⟨rfl, mu, ho⟩ := q
   replace H := H.mut 3 rfl mu ho
   dsimp only [List.set_cons_zero, List.set_cons_succ] at H
   repeat' (first | ((with_reducible refine w_add_NN ?_ ?_) ; omega))
   refine ih2 (n2 - 1) (by omega) (j + 1) _ _ _ (by omega) ?_
   rw [hk1, ← putW_put W B (8 * g.bitsAt) j (by omega) (by omega), show 8 * g.bitsAt + 8 * j = 8 * (g.bitsAt + j) by omega]
   exact H.tail
  ·rw [show j = g.bitsN by omega, List.take_of_length_le (by omega)] at H
   exact w_clrM 2 H rfl E.bl rfl fun h'' a b => ⟨rfl, a, b⟩
theorem good_runs {d : Nd} {g : Geo} (x : g.Ok) (h : d.good g) : ∀ r ∈ d.rs, 1 ≤ r.2 ∧ r.1 + r.2 ≤ g.b := by
 intro r hr
 have h1 := x.1.num
 have h2 := x.2
 have h3 := x.1.n1
 have h5 : g.dataN = g.b - 1 - g.dataAt := rfl
 unfold Nd.good at h
 split at h
 ·rw [h.2.2.2] at hr; cases hr
 ·rcases h.2.2.2.2.2.2.1 with q | q
  ·rw [q.2, List.mem_singleton] at hr
   subst hr
   have h6 : g.lostAt = g.bitsAt + g.bitsN + g.n := rfl
   exact ⟨by show 1 ≤ g.n; omega, by show g.lostAt + g.n ≤ g.b; omega⟩
  ·obtain ⟨i, hi, rfl⟩ := List.getElem_of_mem hr
   have q := (q i hi _ (List.getElem?_eq_getElem hi)).1
   exact ⟨q.1, by have := q.2.2; omega⟩
theorem good_fits {d : Nd} {g : Geo} (x : g.Ok) (h : d.good g) : d.fits := by
 have rs := good_runs x h
 have h1 := x.1.b2
 unfold Nd.good at h
 unfold Nd.fits
 split at h
 ·rename_i z; rw [if_pos z]; exact h
 ·rename_i z
  rw [if_neg z]
  obtain ⟨a, b, c, e, f, k, _, _⟩ := h
  refine ⟨b, by omega, ?_, k, List.all_eq_true.2 fun r hr => ?_⟩
  ·unfold Nd.sizedP at f
   (repeat' split at f) <;> omega
  ·have := rs r hr
   unfold runFits
   exact decide_eq_true ⟨by omega, by omega, by omega⟩
def OldRuns (g : Geo) (W : List Nat) (i : Nat) (old : List (Nat × Nat)) : Prop := (∃ d0, INode g W i d0 ∧ old = d0.rs) ∨ ((∀ d0, ¬ INode g W i d0) ∧ old = [])
theorem OldRuns.le {g : Geo} {W : List Nat} {i : Nat} {old : List (Nat × Nat)} (x : g.Ok) (h : OldRuns g W i old) : old.length ≤ 4 ∧ ∀ r ∈ old, r.1 ≤ 100000 ∧ r.2 ≤ 100000 := by
 have h1 := x.1.b2
 rcases h with ⟨d, hd, rfl⟩ | ⟨_, rfl⟩
 ·refine ⟨?_, fun r hr => by have := good_runs x hd.2.2.2 r hr; omega⟩
  have := good_fits x hd.2.2.2
  unfold Nd.fits at this
  split at this
  ·rw [this.2.2.2]; simp
  ·exact this.2.2.2.1
 ·exact ⟨by simp, fun r hr => by cases hr⟩
def setNodeW (g : Geo) (W : List Nat) (i : Nat) (old : List (Nat × Nat)) (d : Nd) : List Nat := putW (markW g (markW g W false old) true d.rs) (8 * g.nodeAt i) (nodeW d)
theorem bitsW_len {g : Geo} {W : List Nat} (x : g.Ok) (h : W.length = 8 * g.b) : (bitsW g W).length = 8 * g.bitsN := by
 have h4 := x.1.num
 have h5 := x.2
 unfold bitsW; rw [List.length_take, List.length_drop]; omega
theorem bitsW_small {g : Geo} {W : List Nat} (h : Small W) : Small (bitsW g W) := fun x hx => h x (List.mem_of_mem_drop (List.mem_of_mem_take hx))
theorem markW_len {g : Geo} {W : List Nat} {yes : Bool} {rs : List (Nat × Nat)} (x : g.Ok) (h : W.length = 8 * g.b) : (markW g W yes rs).length = 8 * g.b := by
 have h4 := x.1.num
 have h5 := x.2
 unfold markW
 rw [putW_len (by rw [setRuns_len, bitsW_len x h]; omega), h]
theorem markW_small {g : Geo} {W : List Nat} {yes : Bool} {rs : List (Nat × Nat)} (h : Small W) : Small (markW g W yes rs) := putW_small h (setRuns_small _ _ (bitsW_small h))
theorem nodeW_small {d : Nd} (h : d.fits) : Small (nodeW d) := by
 unfold nodeW
 split
 ·intro n hn; rw [List.mem_replicate] at hn; omega
 ·rename_i z
  unfold Nd.fits at h
  rw [if_neg z] at h
  have bs := body_small h.1 h.2.2.1 h.2.2.2.2
  intro n hn
  rcases List.mem_append.1 hn with hn | hn
  ·exact bs n hn
  ·rw [List.mem_singleton] at hn; subst hn; exact sealOf_lt bs
theorem fits_len {d : Nd} (h : d.fits) : d.rs.length ≤ 4 := by
 unfold Nd.fits at h
 split at h
 ·rw [h.2.2.2]; simp
 ·exact h.2.2.2.1
theorem setNodeW_len {g : Geo} {W : List Nat} {i : Nat} {old : List (Nat × Nat)} {d : Nd} (x : g.Ok) (h : W.length = 8 * g.b) (f : d.fits) : (setNodeW g W i old d).length = 8 * g.b := by
 have := nodeAt_in (i := i) x
 unfold setNodeW
 rw [putW_len (by rw [nodeW_len (fits_len f), markW_len x (markW_len x h)]; omega), markW_len x (markW_len x h)]
theorem setNodeW_small {g : Geo} {W : List Nat} {i : Nat} {old : List (Nat × Nat)} {d : Nd} (h : Small W) (f : d.fits) : Small (setNodeW g W i old d) := putW_small (markW_small (markW_small h)) (nodeW_small f)
theorem _root_.Go.Gev.New.rl {h h' : Hs} {v : Value} {l : List (Nat × Nat)} {fl : Bool} (n : New h h' (.osl v 87 2 fl l.length (Rc l))) : New h h' (.rsl v 2 (Rl l)) := by
 obtain ⟨n1, ⟨hl, o⟩, n3⟩ := n
 rcases o with ⟨rfl, hz⟩ | ⟨id, c, cs, sz, f, rfl, hc, hb, hf, hsz, hc'⟩
 ·obtain rfl : l = [] := List.eq_nil_of_length_eq_zero hz
  exact ⟨n1, (Rd.none _ _).1, fun b hb => by cases hb⟩
 ·refine ⟨n1, ⟨Rl_two l, .inr ⟨id, 0, c, cs, sz, _, 2, true, f, by rw [Rl_len], by rw [Rl_len]; exact hc, hb, .inr rfl, fun i j x hi hj => ?_⟩⟩, fun b hb => n3 b ?_⟩
  ·have hx := flatten_get (Rl_two l) i j hj
   rw [hi] at hx
   have : i < l.length := by have := (List.getElem?_eq_some_iff.1 hi).1; rwa [Rl_len] at this
   rw [Nat.zero_add, hc' _ (by rw [hl]; omega)]
   exact hx
  ·cases l with
   | nil => cases hb
   | cons x l => exact hb
theorem oldNode {R : RnK} (ci : CImgNode R) {g : Geo} {l : List Nat} {s : Value} {i : Nat} {h : Hs} {old : List (Nat × Nat)} (x : g.Ok) (hl : l.length = 8 * g.b) (sm : Small l) (r : Rd h s 1 (Wl l)) (hi : i ≤ 100000) (ho : OldRuns g l i old) :
 WP (R 12 [imgV g s, .int .i64 (.ofNat i)] h) fun r h' => ∃ t n z a c ok, r = .tuple #[.agg #[.int .i64 (.ofNat t), .int .i64 (.ofNat n), .int .i64 (.ofNat z), .slice a old.length c], .bool ok] ∧ New h h' (.rsl (.slice a old.length c) 2 (Rl old)) := by
 rcases ho with ⟨d, hd, rfl⟩ | ⟨hd, rfl⟩
 ·refine ((ci g l s i h x hl sm r hi).1 d hd).mono fun v u hv => ?_
  obtain ⟨a, c, rfl, n⟩ := hv
  exact ⟨_, _, _, a, c, _, rfl, n.rl⟩
 ·rw [(ci g l s i h x hl sm r hi).2 hd]
  exact ⟨_, _, rfl, 0, 0, 0, none, 0, false, rfl, Same.refl h, (Rd.none _ _).1, fun b hb => by cases hb⟩
def CSetNode (R : RnK) : Prop := ∀ (h : Hs) (g : Geo) (p b c : Nat) (s0 : Value) (W : List Nat) (i : Nat) (d : Nd) (a : Option Addr) (c' : Nat), EdAt h g p b c s0 W → d.Mod → RdX h (.slice a d.rs.length c') 2 (Rl d.rs) b → i ≤ 100000 →
 (∀ old, 1 ≤ i → i ≤ g.n → d.good g → OldRuns g W i old → WP (R 8 [pV p, .int .i64 (.ofNat i), d.v a c'] h) (QW h b (.int .i64 (.ofNat 0)) (setNodeW g W i old d))) ∧
 (¬ (1 ≤ i ∧ i ≤ g.n ∧ d.good g) → R 8 [pV p, .int .i64 (.ofNat i), d.v a c'] h = some (.val (.int .i64 (.ofNat 1)) h))
theorem setNode_ok {R : RnK} {N : Nat} (cn : CNode R) (cg : CNodeGood R) (ci : CImgNode R) (cm : CMark R) (cnp : CNodePut R) (cp : CEdPut R) {h : Hs} {g : Geo} {p b c : Nat} {s0 : Value} {W : List Nat} {i : Nat} {d : Nd} {a : Option Addr} {c' : Nat} {old : List (Nat × Nat)} (E : EdAt h g p b c s0 W) (dm : d.Mod) (r : RdX h (.slice a d.rs.length c') 2 (Rl d.rs) b) (i1 : 1 ≤ i) (i2 : i ≤ g.n) (dg : d.good g) (ho : OldRuns g W i old) :
 WP (r8 R N [pV p, .int .i64 (.ofNat i), d.v a c'] h) (QW h b (.int .i64 (.ofNat 0)) (setNodeW g W i old d)) := by
 have cng := cn g i
 have cgg := cg g d a c'
 have cig := ci g W (.slice (some ⟨b, 0, none⟩) (8 * g.b) c) i
 have cnpg := cnp d a c'
 unfold r8
 unfold imgV at cig
 unfold Geo.v at cng cgg
 unfold Nd.v at cgg cnpg ⊢
 obtain ⟨fl, H⟩ := E.enter [.rsl (.slice a d.rs.length c') 2 (Rl d.rs)] (fun t ht => by rw [List.mem_singleton.1 ht]; exact r.th)
 have x := E.ok
 have h1 := x.1.b2
 have h2 := E.len
 have h3 := E.cap
 have h4 := x.1.num
 have h5 := x.2
 have h6 := x.1.n2
 have n0 : g.nodeAt i = g.bitsAt + g.bitsN + i - 1 := if_pos ⟨i1, i2⟩
 unfold edO edC at H
 refine w_unC ?_
 refine w_unC ?_
 refine w_unC ?_
 refine w_enK ?_
 refine w_boxA H ?_
 clear H; intro u1 H hu1
 repeat' (first | (with_reducible refine w_fieldA ?_) | (with_reducible refine w_nil ?_) | ((with_reducible apply w_loadsR 2 H) ; rfl; rfl; rfl; rfl; (try dsimp only [List.drop_zero, List.drop_succ_cons, List.take_succ_cons, List.take_zero])))
 refine w_callE (cng _ x (by omega)) ?_
 repeat' (first | (with_reducible refine w_gFf ?_) | (with_reducible refine w_fieldA ?_) | (with_reducible refine w_nil ?_) | ((with_reducible refine w_eql_NN (fun _ => ?_) (fun _ => ?_)) <;> first | (exfalso; omega) | skip) | ((with_reducible apply w_loadsF 0 H) ; rfl; rfl; rfl) | ((with_reducible apply w_loadsR 2 H) ; rfl; rfl; rfl; rfl; (try dsimp only [List.drop_zero, List.drop_succ_cons, List.take_succ_cons, List.take_zero])))
 refine w_call (cgg _ x dm (H.rd 3 rfl)) fun v3 u3 hv => ?_
 obtain ⟨rfl, bb, rfl, hb⟩ := hv
 obtain rfl := hb.2 dg
 refine w_bar (Nat.le_refl _) ?_
 repeat' (first | (with_reducible refine w_jn ?_) | (with_reducible refine w_cndF ?_) | (with_reducible refine w_gFf ?_) | (with_reducible refine w_pickF ?_) | (with_reducible refine w_notT ?_) | (with_reducible refine w_fieldA ?_) | (with_reducible refine w_nil ?_) | (with_reducible refine w_blind ?_) | ((with_reducible apply w_loadsR 2 H) ; rfl; rfl; rfl; rfl; (try dsimp only [List.drop_zero, List.drop_succ_cons, List.take_succ_cons, List.take_zero])))
 have cio := fun u rr => oldNode ci (s := .slice (some ⟨b, 0, none⟩) (8 * g.b) c) (h := u) x h2 E.sm rr (show i ≤ 100000 by omega) ho
 unfold imgV at cio
 refine w_call (cio _ (by rw [Wl_ones]; exact H.rdB 1 rfl (by rw [Wc_len]; omega) (by omega))) fun v4 u4 hv => ?_
 obtain ⟨t, n, z, a0, c0, ok, rfl, n4⟩ := hv
 replace H := H.call n4
 obtain ⟨o1, o2⟩ := ho.le x
 repeat' (first | (with_reducible refine w_fieldA ?_) | ((with_reducible apply w_extr) ; rfl) | ((with_reducible refine w_alloc H ?_) ; (clear H; intro u H hu)) | ((with_reducible apply w_load 0 H) ; rfl; rfl; rfl) | ((with_reducible apply w_storeV 0 H) ; rfl; rfl; rfl; omega; rfl; (clear H; intro u H hu; (try dsimp only [List.set_cons_zero, List.set_cons_succ, cellsL, List.toList_toArray, splice, ev, rep, List.cons_append, List.nil_append] at H))))
 refine w_call (cm _ g p b c s0 W false old (.slice a0 old.length c0) (EdAt.of 3 4 H rfl rfl x h3 h2 E.sm) (by omega) o2 ⟨H.rd 1 rfl, H.neR (i := 3) (j := 1) rfl rfl (by decide)⟩) fun v5 u5 q => ?_
 obtain ⟨rfl, mu, hw⟩ := q
 replace H := H.mut 3 rfl mu hw
 dsimp only [List.set_cons_zero, List.set_cons_succ] at H
 repeat' (first | (with_reducible refine w_fieldA ?_) | ((with_reducible apply w_load 2 H) ; rfl; rfl; rfl))
 have r2 : ∀ r ∈ d.rs, r.1 ≤ 100000 ∧ r.2 ≤ 100000 := fun r hr => by have := good_runs x dg r hr; omega
 have df := good_fits x dg
 refine w_call (cm _ g p b c s0 (markW g W false old) true d.rs (.slice a d.rs.length c') (EdAt.of 3 4 H rfl rfl x h3 (markW_len x h2) (markW_small E.sm)) dm.rl r2 ⟨H.rd 5 rfl, H.neR (i := 3) (j := 5) rfl rfl (by decide)⟩) fun v6 u6 q => ?_
 obtain ⟨rfl, mu, hw⟩ := q
 replace H := H.mut 3 rfl mu hw
 dsimp only [List.set_cons_zero, List.set_cons_succ] at H
 repeat' (first | ((with_reducible apply w_loadsF 2 H) ; rfl; rfl; rfl))
 refine w_call ((cnpg _ (by have := fits_len df; omega) (H.rd 5 rfl)).1 df) fun v7 u7 n7 => ?_
 replace n7 := n7.ones
 rw [← Wl_ones] at n7
 replace H := H.call n7
 refine w_call (cp _ g p b c s0 _ (g.nodeAt i) (nodeW d) v7 (EdAt.of 4 5 H rfl rfl x h3 (markW_len x (markW_len x h2)) (markW_small (markW_small E.sm))) (by omega) (by rw [nodeW_len (fits_len df)]; omega) ⟨H.rd 0 rfl, H.neR (i := 4) (j := 0) rfl rfl (by decide)⟩) fun v8 u8 q => ?_
 obtain ⟨rfl, mu, hw⟩ := q
 replace H := H.mut 4 rfl mu hw
 dsimp only [List.set_cons_zero, List.set_cons_succ] at H
 exact w_clrM 4 H rfl E.bl rfl fun h'' a b => ⟨rfl, a, b⟩
theorem setNode_no {R : RnK} {N : Nat} (cn : CNode R) (cg : CNodeGood R) {h : Hs} {g : Geo} {p b c : Nat} {s0 : Value} {W : List Nat} {i : Nat} {d : Nd} {a : Option Addr} {c' : Nat} (E : EdAt h g p b c s0 W) (dm : d.Mod) (r : RdX h (.slice a d.rs.length c') 2 (Rl d.rs) b) (hi : i ≤ 100000) (no : ¬ (1 ≤ i ∧ i ≤ g.n ∧ d.good g)) :
 r8 R N [pV p, .int .i64 (.ofNat i), d.v a c'] h = some (.val (.int .i64 (.ofNat 1)) h) := by
 refine WP.eqn ?_
 have cng := cn g i
 have cgg := cg g d a c'
 unfold r8
 unfold Geo.v at cng cgg
 unfold Nd.v at cgg ⊢
 obtain ⟨fl, hrow⟩ := E.row
 have H := Sto.enterR h [.rob p (edO g fl b c s0), .rsl (.slice a d.rs.length c') 2 (Rl d.rs)] (fun t ht => by
  rcases List.mem_cons.1 ht with rfl | ht
  ·exact ⟨rfl, hrow, fun b' hb' => by injection hb' with e; subst e; exact E.pl⟩
  ·rw [List.mem_singleton.1 ht]; exact ⟨rfl, r.1.1, fun b' hb' => r.1.2 b' hb'⟩)
 have x := E.ok
 have h4 := x.1.num
 have n0 : (1 ≤ i ∧ i ≤ g.n) → g.nodeAt i = g.bitsAt + g.bitsN + i - 1 := fun z => if_pos z
 have n1 : ¬ (1 ≤ i ∧ i ≤ g.n) → g.nodeAt i = 0 := fun z => if_neg z
 unfold edO edC at H
 repeat' (first | (with_reducible refine w_unC ?_) | (with_reducible refine w_enK ?_) | (with_reducible refine w_fieldA ?_) | (with_reducible refine w_nil ?_) | ((with_reducible refine w_boxA H ?_) ; (clear H; intro u H hu)) | ((with_reducible apply w_loadsR 1 H) ; rfl; rfl; rfl; rfl; (try dsimp only [List.drop_zero, List.drop_succ_cons, List.take_succ_cons, List.take_zero])))
 refine w_callE (cng _ x hi) ?_
 repeat' (first | (with_reducible refine w_jn ?_) | (with_reducible refine w_cndT ?_) | (with_reducible refine w_gFt ?_) | (with_reducible refine w_gFf ?_) | (with_reducible refine w_pickT ?_) | (with_reducible refine w_fieldA ?_) | (with_reducible refine w_nil ?_) | (with_reducible refine w_blind ?_) | ((with_reducible refine w_eql_NN (fun _ => ?_) (fun _ => ?_)) <;> first | (exfalso; omega) | skip) | ((with_reducible apply w_loadsF 0 H) ; rfl; rfl; rfl) | ((with_reducible apply w_loadsR 1 H) ; rfl; rfl; rfl; rfl; (try dsimp only [List.drop_zero, List.drop_succ_cons, List.take_succ_cons, List.take_zero])))
 ·exact w_clr H rfl ⟨rfl, rfl⟩
 ·refine w_call (cgg _ x dm (H.rd 2 rfl)) fun v3 u3 hv => ?_
  obtain ⟨rfl, bb, rfl, hb⟩ := hv
  have nb : bb = false := by
   cases bb with
   | false => rfl
   | true => exact absurd (hb.1 rfl) fun z => no ⟨Decidable.byContradiction fun y => by have := n1 (by omega); omega, Decidable.byContradiction fun y => by have := n1 (by omega); omega, z⟩
  subst nb
  refine w_bar (Nat.le_refl _) ?_
  repeat' (first | (with_reducible refine w_jn ?_) | (with_reducible refine w_cndT ?_) | (with_reducible refine w_gFf ?_) | (with_reducible refine w_pickF ?_) | (with_reducible refine w_notF ?_) | (with_reducible refine w_blind ?_))
  exact w_clr H rfl ⟨rfl, rfl⟩
def CClear (R : RnK) : Prop := ∀ (h : Hs) (g : Geo) (p b c : Nat) (s0 : Value) (W : List Nat) (i : Nat) (old : List (Nat × Nat)), EdAt h g p b c s0 W → 1 ≤ i → i ≤ g.n → OldRuns g W i old → WP (R 10 [pV p, .int .i64 (.ofNat i)] h) (QW h b (.int .i64 (.ofNat 0)) (setNodeW g W i old nd0))
theorem nd0_good (g : Geo) : nd0.good g := by unfold Nd.good; rw [if_pos (show nd0.ty = 0 from rfl)]; exact ⟨rfl, rfl, rfl, rfl⟩
theorem nd0_mod : nd0.Mod := ⟨by decide, by decide, by decide, by decide, fun r hr => by cases hr⟩
theorem clear_ok {R : RnK} {N : Nat} (cs : CSetNode R) {h : Hs} {g : Geo} {p b c : Nat} {s0 : Value} {W : List Nat} {i : Nat} {old : List (Nat × Nat)} (E : EdAt h g p b c s0 W) (i1 : 1 ≤ i) (i2 : i ≤ g.n) (ho : OldRuns g W i old) : WP (r10 R N [pV p, .int .i64 (.ofNat i)] h) (QW h b (.int .i64 (.ofNat 0)) (setNodeW g W i old nd0)) := by
 unfold r10
 obtain ⟨fl, H⟩ := E.enter [] (fun t ht => by cases ht)
 have h6 := E.ok.1.n2
 repeat' (first | (with_reducible refine w_unC ?_) | (with_reducible refine w_enK ?_) | ((with_reducible apply w_build) ; rfl; (try dsimp only [splice, ev, cellsL, rep, List.cons_append, List.nil_append])))
 refine w_call ((cs _ g p b c s0 W i nd0 none 0 (EdAt.of 0 1 H rfl rfl E.ok E.cap E.len E.sm) nd0_mod ⟨Rd.none _ _, fun q => by cases q⟩ (by omega)).1 old i1 i2 (nd0_good g) ho) fun v8 u8 q => ?_
 obtain ⟨rfl, mu, hw⟩ := q
 replace H := H.mut 0 rfl mu hw
 dsimp only [List.set_cons_zero, List.set_cons_succ] at H
 exact w_clrM 0 H rfl E.bl rfl fun h'' a b => ⟨rfl, a, b⟩
def Cnt (l : List (Nat × Nat)) : Prop := ∀ r ∈ l, 1 ≤ r.2 ∧ r.2 ≤ 1073741824 ∧ r.1 ≤ 1073741824
theorem w_atOR {Q : Value → Hs → Prop} {h0 h : Hs} {S : List Nat} {m : List Th} (k : Nat) {hh : Hs} {v : Value} {l : List (Nat × Nat)} {i : Nat} {K : Value → An} (H : Sto h0 S h m) (hk : m[k]? = some (OR v l)) (hi : i < l.length) (hp : hh.hp = h.hp) (w : WP (K (.agg [Value.int .i64 (.ofNat l[i].1), .int .i64 (.ofNat l[i].2)].toArray)) Q) :
 WP (kIdxA 2 v (.int .i64 (.ofNat i)) (fun p => kLoads 2 p hh K)) Q := by
 have rd := H.rdOR k hk
 have H2 := Sto.enterR h [.rsl v 2 (Rl l)] (fun t ht => by rw [List.mem_singleton.1 ht]; exact ⟨rfl, rd.1, fun b hb => rd.2 b hb⟩)
 exact w_at 0 H2 rfl (Rl_get hi) hp rfl w
def CCounts (R : RnK) : Prop := ∀ (l : List (Nat × Nat)) (v : Value) (h : Hs), Cnt l → l.length ≤ 1000 → Rd h v 2 (Rl l) → WP (R 62 [v] h) fun v' h' => New h h' (OR v' l)
theorem counts_ok {R : RnK} {N : Nat} {l : List (Nat × Nat)} {v : Value} {h : Hs} (hN : 100000 < N) (hc : Cnt l) (hb : l.length ≤ 1000) (r : Rd h v 2 (Rl l)) : WP (r62 R N [v] h) fun v' h' => New h h' (OR v' l) := by
 unfold r62
 obtain ⟨a, c, rfl⟩ := r.1.formN (Rl_len l)
 have H := Sto.enter1 r
 have l1 := Rl_len l
 repeat' (first | (with_reducible refine w_jn ?_) | (with_reducible refine w_unC ?_) | (with_reducible refine w_enK ?_) | (with_reducible refine w_lenV ?_))
 replace H := H.nilS 87 2
 refine lp_ind (Good := fun n (self : L5) => ∀ (i : Nat) (y1 y2 y3 cur : Value) (m : List Th) (w : Hs), i + n = l.length → Sto h [] w (.osl cur 87 2 true i (Rc (l.take i)) :: .rsl (.slice a l.length c) 2 (Rl l) :: m) → WP (self (.int .i64 (.ofNat i)) y1 y2 y3 cur w) (fun v' h' => New h h' (OR v' l))) (fun n self ih i y1 y2 y3 cur m w hi H1 => ?_) N l.length (by omega) 0 _ _ _ _ [] _ (by omega) H
 clear H
 have H := H1
 clear H1
 obtain ⟨ac, cc, rfl⟩ := (show OwnSl w cur 87 2 _ _ _ from H.ok _ (List.mem_of_getElem? (i := 0) rfl)).form
 repeat' (first | (with_reducible refine w_jn ?_) | (with_reducible refine w_cndT ?_) | (with_reducible refine w_cndF ?_) | ((with_reducible refine w_lss_NN (fun _ => ?_) (fun _ => ?_)) <;> first | (exfalso; omega) | skip))
 ·have ii : i < l.length := by omega
  refine w_at 1 H rfl (Rl_get ii) rfl rfl ?_
  have rb := hc _ (List.getElem_mem ii)
  have tk : Rc (l.take (i + 1)) = Rc (l.take i) ++ [.int .i64 (.ofNat l[i].1), .int .i64 (.ofNat l[i].2)] := by
   rw [List.take_add_one, List.getElem?_eq_getElem ii]; exact Rc_snoc _ _
  repeat' (first | (with_reducible refine w_jn ?_) | (with_reducible refine w_cndT ?_) | (with_reducible refine w_gTt ?_) | (with_reducible refine w_pickT ?_) | (with_reducible refine w_fieldA ?_) | ((with_reducible refine w_alloc H ?_) ; (clear H; intro u H hu)) | ((with_reducible apply w_mkrow H) ; rfl; (clear H; intro u H hu; (try dsimp only [List.set_cons_zero, List.set_cons_succ, cellsL, List.toList_toArray, splice, ev, rep, List.cons_append, List.nil_append] at H))) | ((with_reducible refine w_leq_NN (fun _ => ?_) (fun _ => ?_)) <;> first | (exfalso; omega) | skip) | ((with_reducible refine w_geq_NN (fun _ => ?_) (fun _ => ?_)) <;> first | (exfalso; omega) | skip) | ((with_reducible apply w_load 0 H) ; rfl; rfl; rfl) | ((with_reducible apply w_storeV 0 H) ; rfl; rfl; rfl; omega; rfl; (clear H; intro u H hu; (try dsimp only [List.set_cons_zero, List.set_cons_succ, cellsL, List.toList_toArray, splice, ev, rep, List.cons_append, List.nil_append] at H))) | ((with_reducible apply w_loadsF 0 H) ; rfl; rfl; rfl))
  refine w_appendB 2 0 H rfl rfl rfl rfl (by omega) (by omega) fun v3 u4 H4 hn4 => ?_
  clear H
  have H := H4.tail.tail
  clear H4
  dsimp only [List.set_cons_zero, List.set_cons_succ] at H
  rw [show (Rc (l.take i) ++ [Value.int .i64 (.ofNat l[i].1), .int .i64 (.ofNat l[i].2)]) = Rc (l.take (i + 1)) from tk.symm] at H
  repeat' (first | ((with_reducible refine w_add_NN ?_ ?_) ; omega))
  exact ih (n - 1) (by omega) (i + 1) _ _ _ _ m _ (by omega) H
 ·obtain rfl : i = l.length := by omega
  rw [List.take_length] at H
  exact w_clrO 0 H rfl fun v' h' n => n
def runAt : List (Nat × Nat) → Nat → Option Nat
 | [], _ => none
 | r :: l, i => if i < r.2 then some (r.1 + i) else runAt l (i - r.2)
def CTotal (R : RnK) : Prop := ∀ (l : List (Nat × Nat)) (v : Value) (h : Hs), Cnt l → l.length ≤ 1000 → Rd h v 2 (Rl l) → R 29 [v] h = some (.val (.int .i64 (.ofNat (sumR l))) h)
theorem cnt_sum {l : List (Nat × Nat)} (hc : Cnt l) : sumR l ≤ l.length * 4294967296 := sumR_le fun r hr => by have := hc r hr; omega
theorem total_ok {R : RnK} {N : Nat} (cc : CCounts R) {l : List (Nat × Nat)} {v : Value} {h : Hs} (hN : 100000 < N) (hc : Cnt l) (hb : l.length ≤ 1000) (r : Rd h v 2 (Rl l)) : r29 R N [v] h = some (.val (.int .i64 (.ofNat (sumR l))) h) := by
 refine WP.eqn ?_
 unfold r29
 have H := Sto.enter1 r
 have l1 := Rl_len l
 refine w_unC ?_
 refine w_enK ?_
 refine w_call (cc l v _ hc hb (H.rd 0 rfl)) fun v1 u1 n1 => ?_
 obtain ⟨a, c, rfl⟩ := n1.2.1.form
 replace H := H.call n1
 repeat' (first | (with_reducible refine w_jn ?_) | (with_reducible refine w_lenV ?_))
 refine lp_ind (Good := fun n (self : L4) => ∀ (i : Nat) (y1 y3 : Value) (m : List Th) (w : Hs), i + n = l.length → Sto h [] w (OR (.slice a l.length c) l :: m) → WP (self (.int .i64 (.ofNat i)) y1 (.int .i64 (.ofNat (sumR (l.take i)))) y3 w) (fun v' h' => v' = .int .i64 (.ofNat (sumR l)) ∧ h' = h)) (fun n self ih i y1 y3 m w hi H1 => ?_) N l.length (by omega) 0 _ _ _ _ (by omega) H
 clear H
 have H := H1
 clear H1
 have sm := cnt_sum (l := l.take i) fun r hr => hc r (List.mem_of_mem_take hr)
 rw [List.length_take] at sm
 repeat' (first | (with_reducible refine w_jn ?_) | (with_reducible refine w_cndT ?_) | (with_reducible refine w_cndF ?_) | ((with_reducible refine w_lss_NN (fun _ => ?_) (fun _ => ?_)) <;> first | (exfalso; omega) | skip))
 ·have ii : i < l.length := by omega
  refine w_atOR 0 H rfl ii rfl ?_
  have rb := hc _ (List.getElem_mem ii)
  have tk : sumR (l.take (i + 1)) = sumR (l.take i) + l[i].2 := by rw [List.take_add_one, List.getElem?_eq_getElem ii]; exact sumR_snoc _ _
  repeat' (first | (with_reducible refine w_fieldA ?_) | ((with_reducible refine w_alloc H ?_) ; (clear H; intro u H hu)) | ((with_reducible refine w_add_NN ?_ ?_) ; omega) | ((with_reducible apply w_load 0 H) ; rfl; rfl; rfl) | ((with_reducible apply w_storeV 0 H) ; rfl; rfl; rfl; omega; rfl; (clear H; intro u H hu; (try dsimp only [List.set_cons_zero, List.set_cons_succ, cellsL, List.toList_toArray, splice, ev, rep, List.cons_append, List.nil_append] at H))))
  rw [← tk]
  exact ih (n - 1) (by omega) (i + 1) _ _ m _ (by omega) H.tail
 ·rw [List.take_of_length_le (by omega)]
  exact w_clr H rfl ⟨rfl, rfl⟩
def CAt (R : RnK) : Prop := ∀ (l : List (Nat × Nat)) (i : Nat) (v : Value) (h : Hs), Cnt l → l.length ≤ 1000 → i ≤ 1099511627776 → Rd h v 2 (Rl l) → R 30 [v, .int .i64 (.ofNat i)] h = some (.val (.tuple #[.int .i64 (.ofNat ((runAt l i).getD 0)), .bool (runAt l i).isSome]) h)
theorem at_ok {R : RnK} {N : Nat} (cc : CCounts R) {l : List (Nat × Nat)} {i : Nat} {v : Value} {h : Hs} (hN : 100000 < N) (hc : Cnt l) (hb : l.length ≤ 1000) (hi : i ≤ 1099511627776) (r : Rd h v 2 (Rl l)) : r30 R N [v, .int .i64 (.ofNat i)] h = some (.val (.tuple #[.int .i64 (.ofNat ((runAt l i).getD 0)), .bool (runAt l i).isSome]) h) := by
 refine WP.eqn ?_
 unfold r30
 have H := Sto.enter1 r
 have l1 := Rl_len l
 repeat' (first | (with_reducible refine w_jn ?_) | (with_reducible refine w_cndF ?_) | (with_reducible refine w_unC ?_) | (with_reducible refine w_enK ?_) | ((with_reducible refine w_lss_NN (fun _ => ?_) (fun _ => ?_)) <;> first | (exfalso; omega) | skip))
 refine w_call (cc l v _ hc hb (H.rd 0 rfl)) fun v1 u1 n1 => ?_
 obtain ⟨a, c, rfl⟩ := n1.2.1.form
 replace H := H.call n1
 repeat' (first | (with_reducible refine w_jn ?_) | (with_reducible refine w_lenV ?_))
 refine lp_ind (Good := fun n (self : L7) => ∀ (k j : Nat) (y2 y3 y4 y5 y6 : Value) (m : List Th) (w : Hs), k + n = l.length → j ≤ 1099511627776 → runAt (l.drop k) j = runAt l i → Sto h [] w (OR (.slice a l.length c) l :: m) → WP (self (.int .i64 (.ofNat j)) (.int .i64 (.ofNat k)) y2 y3 y4 y5 y6 w) (fun v' h' => v' = .tuple #[.int .i64 (.ofNat ((runAt l i).getD 0)), .bool (runAt l i).isSome] ∧ h' = h)) (fun n self ih k j y2 y3 y4 y5 y6 m w hk hj hq H1 => ?_) N l.length (by omega) 0 i _ _ _ _ _ _ _ (by omega) hi rfl H
 clear H
 have H := H1
 clear H1
 repeat' (first | (with_reducible refine w_jn ?_) | (with_reducible refine w_cndT ?_) | (with_reducible refine w_cndF ?_) | ((with_reducible refine w_lss_NN (fun _ => ?_) (fun _ => ?_)) <;> first | (exfalso; omega) | skip))
 ·have ii : k < l.length := by omega
  refine w_atOR 0 H rfl ii rfl ?_
  have rb := hc _ (List.getElem_mem ii)
  rw [List.drop_eq_getElem_cons ii] at hq
  rw [show runAt (l[k] :: l.drop (k + 1)) j = if j < l[k].2 then some (l[k].1 + j) else runAt (l.drop (k + 1)) (j - l[k].2) from rfl] at hq
  repeat' (first | (with_reducible refine w_jn ?_) | (with_reducible refine w_cndT ?_) | (with_reducible refine w_cndF ?_) | (with_reducible refine w_fieldA ?_) | ((with_reducible refine w_alloc H ?_) ; (clear H; intro u H hu)) | ((with_reducible refine w_lss_NN (fun _ => ?_) (fun _ => ?_)) <;> first | (exfalso; omega) | skip) | ((with_reducible refine w_add_NN ?_ ?_) ; omega) | ((with_reducible refine w_sub_NN ?_ ?_ ?_) ; omega; omega) | ((with_reducible apply w_load 0 H) ; rfl; rfl; rfl) | ((with_reducible apply w_storeV 0 H) ; rfl; rfl; rfl; omega; rfl; (clear H; intro u H hu; (try dsimp only [List.set_cons_zero, List.set_cons_succ, cellsL, List.toList_toArray, splice, ev, rep, List.cons_append, List.nil_append] at H))))
  ·rw [if_pos (by assumption)] at hq
   rw [← hq]
   exact w_clr H rfl ⟨rfl, rfl⟩
  ·rw [if_neg (by assumption)] at hq
   exact ih (n - 1) (by omega) (k + 1) (j - l[k].2) _ _ _ _ _ m _ (by omega) (by omega) hq H.tail
 ·rw [List.drop_of_length_le (by omega)] at hq
  rw [← hq]
  exact w_clr H rfl ⟨rfl, rfl⟩
abbrev Bl (D : List UInt8) : List (List Value) := ones (byteVs D)
theorem Bl_len (D : List UInt8) : (Bl D).length = D.length := by rw [ones_len, bV_len]
theorem Bl_get {D : List UInt8} {i : Nat} (hi : i < D.length) : (Bl D)[i]? = some [.int .u8 (.ofNat D[i].toNat)] := by
 unfold Bl ones; rw [List.getElem?_map, bV_get, List.getElem?_eq_getElem hi]; rfl
theorem Bl_drop (D : List UInt8) (n : Nat) : (Bl D).drop n = Bl (D.drop n) := by unfold Bl ones; rw [bV_drop, List.map_drop]
theorem Bl_take (D : List UInt8) (n : Nat) : (Bl D).take n = Bl (D.take n) := by unfold Bl ones; rw [bV_take, List.map_take]
def packS (D : List UInt8) (ws : List Nat) (k : Nat) : List Nat := ws.set (k / 8) (ws.getD (k / 8) 0 ||| (D.getD k 0).toNat * 2 ^ (8 * (k % 8)) % 18446744073709551616)
def packTo (D : List UInt8) (j : Nat) : List Nat := (List.range j).foldl (packS D) (List.replicate 8 0)
def packW (D : List UInt8) : List Nat := packTo D D.length
theorem packTo_succ (D : List UInt8) (j : Nat) : packTo D (j + 1) = packS D (packTo D j) j := by unfold packTo; rw [List.range_succ, List.foldl_append]; rfl
theorem packTo_len (D : List UInt8) : ∀ j, (packTo D j).length = 8 := by
 intro j
 induction j with
 | zero => rfl
 | succ j ih => rw [packTo_succ]; unfold packS; rw [List.length_set, ih]
theorem packTo_small (D : List UInt8) : ∀ j, Small (packTo D j) := by
 intro j
 induction j with
 | zero => intro n hn; unfold packTo at hn; simp at hn; omega
 | succ j ih => rw [packTo_succ]; exact ih.set _ _ (or_lt (ih.getD _) (Nat.mod_lt _ (by omega)))
def chunk (D : List UInt8) (i : Nat) : List UInt8 := (D.drop (64 * i)).take 64
def fillTo (W : List Nat) (l : List (Nat × Nat)) (D : List UInt8) (i : Nat) : List Nat := (List.range i).foldl (fun W i => putW W (8 * (runAt l i).getD 0) (packW (chunk D i))) W
theorem fillTo_succ (W : List Nat) (l : List (Nat × Nat)) (D : List UInt8) (i : Nat) : fillTo W l D (i + 1) = putW (fillTo W l D i) (8 * (runAt l i).getD 0) (packW (chunk D i)) := by unfold fillTo; rw [List.range_succ, List.foldl_append]; rfl
theorem runAt_lt {l : List (Nat × Nat)} {B : Nat} : ∀ {i : Nat}, (∀ r ∈ l, 1 ≤ r.2 ∧ r.1 + r.2 ≤ B) → i < sumR l → ∃ a, runAt l i = some a ∧ a < B := by
 induction l with
 | nil => intro i _ h; exact absurd h (by unfold sumR; simp)
 | cons r l ih =>
  intro i h hi
  have h1 := h r List.mem_cons_self
  have hs : sumR (r :: l) = r.2 + sumR l := rfl
  by_cases q : i < r.2
  ·exact ⟨r.1 + i, if_pos q, by omega⟩
  ·obtain ⟨a, e, ha⟩ := ih (i := i - r.2) (fun r hr => h r (List.mem_cons_of_mem _ hr)) (by omega)
   exact ⟨a, by rw [show runAt (r :: l) i = runAt l (i - r.2) from if_neg q, e], ha⟩
theorem fillTo_len {W : List Nat} {l : List (Nat × Nat)} {D : List UInt8} {B : Nat} (hW : W.length = 8 * B) (h : ∀ r ∈ l, 1 ≤ r.2 ∧ r.1 + r.2 ≤ B) : ∀ i, i ≤ sumR l → (fillTo W l D i).length = 8 * B := by
 intro i
 induction i with
 | zero => intro _; exact hW
 | succ i ih =>
  intro hi
  obtain ⟨a, e, ha⟩ := runAt_lt (i := i) h (by omega)
  rw [fillTo_succ, e, putW_len (by rw [show (some a).getD 0 = a from rfl, ih (by omega)]; unfold packW; rw [packTo_len]; omega), ih (by omega)]
theorem fillTo_small {W : List Nat} {l : List (Nat × Nat)} {D : List UInt8} (hW : Small W) : ∀ i, Small (fillTo W l D i) := by
 intro i
 induction i with
 | zero => exact hW
 | succ i ih => rw [fillTo_succ]; exact putW_small ih (packTo_small _ _)
def CMay (R : RnK) : Prop := ∀ (n : Nat) (h : Hs), R 27 [.int .i64 (.ofNat 1), .int .i64 (.ofNat n)] h = some (.val (.bool (decide (n ≤ 4096))) h)
theorem may_ok {R : RnK} {N : Nat} {n : Nat} {h : Hs} : r27 R N [.int .i64 (.ofNat 1), .int .i64 (.ofNat n)] h = some (.val (.bool (decide (n ≤ 4096))) h) := by
 refine WP.eqn ?_
 unfold r27
 have H := Sto.enter h
 repeat' (first | (with_reducible refine w_jn ?_) | (with_reducible refine w_cndT ?_) | (with_reducible refine w_unC ?_) | (with_reducible refine w_enK ?_) | ((with_reducible refine w_leq_NN (fun _ => ?_) (fun _ => ?_)) <;> first | (exfalso; omega) | skip) | ((with_reducible refine w_eql_NN (fun _ => ?_) (fun _ => ?_)) <;> first | (exfalso; omega) | skip))
 all_goals exact w_clrB H (by simp; omega)
def TakeOk (R : RnK) (g : Geo) (p b c : Nat) (s0 : Value) (W : List Nat) (k : Nat) (but l : List (Nat × Nat)) : Prop := ∀ (u : Hs) (v : Value), EdAt u g p b c s0 W → RdX u v 2 (Rl but) b →
 WP (R 28 [pV p, .int .i64 (.ofNat 0), .int .i64 (.ofNat k), .int .i64 (.ofNat 4), v] u) fun r h' => ∃ a c, r = .tuple #[.slice a l.length c, .int .i64 (.ofNat 0)] ∧ New u h' (.osl (.slice a l.length c) 87 2 false l.length (Rc l))
theorem RdX.ofO {h0 h : Hs} {S : List Nat} {m : List Th} {b : Nat} {o : Gev.Obj} {v : Value} {e n : Nat} {fl : Bool} {l : List Nat} (i j : Nat) (H : Sto h0 S h m) (hi : m[i]? = some (.blk b o)) (hj : m[j]? = some (.osl v e 1 fl n (Wc l))) : RdX h v 1 (Wl l) b := by
 have r := OwnSl.rd1 (H.ok _ (List.mem_of_getElem? hj))
 rw [← Wl_ones] at r
 exact ⟨⟨r.1, fun b hb => (H.ids _ (List.mem_of_getElem? hj) b (r.2 b hb)).1⟩, fun e => H.dj i j _ _ hi hj (fun q => by rw [q, hj] at hi; cases hi) rfl b rfl (r.2 b e)⟩
def fillN (d : Nd) (D : List UInt8) (l : List (Nat × Nat)) : Nd := ⟨d.ty, d.ln, D.length, l⟩
def CFill (R Ri : RnK) : Prop := ∀ (h : Hs) (g : Geo) (p b c : Nat) (s0 : Value) (W : List Nat) (n : Nat) (d : Nd) (D : List UInt8) (v : Value) (l : List (Nat × Nat)), EdAt h g p b c s0 W → INode g W n d → d.ty = 1 → D.length ≤ 4096 → RdX h v 1 (Bl D) b → TakeOk Ri g p b c s0 W ((D.length + 63) / 64) d.rs l → (fillN d D l).good g →
 WP (R 9 [pV p, .int .i64 (.ofNat 0), .int .i64 (.ofNat n), v] h) (QW h b (.int .i64 (.ofNat 0)) (fillTo (setNodeW g W n d.rs (fillN d D l)) l D ((D.length + 63) / 64)))
theorem fill_ok {R : RnK} {N : Nat} (ci : CImgNode R) (cm : CMay R) (cs : CSetNode R) (ct : CTotal R) (ca : CAt R) (cp : CEdPut R) {h : Hs} {g : Geo} {p b c : Nat} {s0 : Value} {W : List Nat} {n : Nat} {d : Nd} {D : List UInt8} {v : Value} {l : List (Nat × Nat)} (hN : 100000 < N) (E : EdAt h g p b c s0 W) (hd : INode g W n d) (ty : d.ty = 1) (hD : D.length ≤ 4096) (r : RdX h v 1 (Bl D) b) (tk : TakeOk R g p b c s0 W ((D.length + 63) / 64) d.rs l) (gd : (fillN d D l).good g) :
 WP (r9 R N [pV p, .int .i64 (.ofNat 0), .int .i64 (.ofNat n), v] h) (QW h b (.int .i64 (.ofNat 0)) (fillTo (setNodeW g W n d.rs (fillN d D l)) l D ((D.length + 63) / 64))) := by
 unfold r9
 obtain ⟨av, cv, rfl⟩ := r.1.1.formN (Bl_len D)
 obtain ⟨fl, H⟩ := E.enter [.rsl (.slice av D.length cv) 1 (Bl D)] (fun t ht => by rw [List.mem_singleton.1 ht]; exact r.th)
 have x := E.ok
 have h1 := x.1.b2
 have h2 := E.len
 have h3 := E.cap
 have h4 := x.1.num
 have h5 := x.2
 have h6 := x.1.n2
 have h7 := x.1.c1
 have l1 := Bl_len D
 have hn2 := hd.2.1
 have gr : ∀ r ∈ l, 1 ≤ r.2 ∧ r.1 + r.2 ≤ g.b := good_runs x gd
 have gf := good_fits x gd
 have gm := fits_mod gf
 have needs : sumR l = (D.length + 63) / 64 := by
  have := gd
  unfold Nd.good at this
  rw [if_neg (by show ¬ d.ty = 0; omega)] at this
  rw [show sumR l = (fillN d D l).needs from this.2.2.2.2.2.2.2]
  unfold Nd.needs fillN
  rw [ty]; simp; omega
 have cnt : Cnt l := fun r hr => by have := gr r hr; omega
 have ll : l.length ≤ 4 := fits_len gf
 unfold edO edC at H
 have cio := fun u rr => (ci g W (.slice (some ⟨b, 0, none⟩) (8 * g.b) c) n u x h2 E.sm rr (by omega)).1 d hd
 unfold imgV at cio
 repeat' (first | (with_reducible refine w_unC ?_) | (with_reducible refine w_enK ?_) | (with_reducible refine w_fieldA ?_) | (with_reducible refine w_nil ?_) | ((with_reducible apply w_loadsR 1 H) ; rfl; rfl; rfl; rfl; (try dsimp only [List.drop_zero, List.drop_succ_cons, List.take_succ_cons, List.take_zero])))
 refine w_call (cio _ (by rw [Wl_ones]; exact H.rdB 0 rfl (by rw [Wc_len]; omega) (by omega))) fun v4 u4 hv => ?_
 obtain ⟨a0, c0, rfl, n4⟩ := hv
 replace H := H.call n4.rl
 unfold Nd.v
 repeat' (first | (with_reducible refine w_gFf ?_) | (with_reducible refine w_notT ?_) | (with_reducible refine w_fieldA ?_) | (with_reducible refine w_lenV ?_) | ((with_reducible apply w_extr) ; rfl) | ((with_reducible refine w_alloc H ?_) ; (clear H; intro u H hu)) | ((with_reducible apply w_load 0 H) ; rfl; rfl; rfl) | ((with_reducible apply w_storeV 0 H) ; rfl; rfl; rfl; omega; rfl; (clear H; intro u H hu; (try dsimp only [List.set_cons_zero, List.set_cons_succ, cellsL, List.toList_toArray, splice, ev, rep, List.cons_append, List.nil_append] at H))))
 have cmm : ∀ u, R 27 [.int .i64 (.ofNat d.ty), .int .i64 (.ofNat D.length)] u = some (.val (.bool (decide (D.length ≤ 4096))) u) := fun u => by rw [ty]; exact cm _ _
 repeat' (first | ((refine w_callB (cmm _) (fun _ => ?_) (fun _ => ?_)) <;> first | (exfalso; omega) | skip) | (with_reducible refine w_jn ?_) | (with_reducible refine w_cndF ?_) | (with_reducible refine w_gFf ?_) | (with_reducible refine w_pickF ?_) | (with_reducible refine w_notT ?_) | (with_reducible refine w_fieldA ?_) | (with_reducible refine w_nil ?_) | (with_reducible refine w_lenV ?_) | ((with_reducible refine w_lss_NN (fun _ => ?_) (fun _ => ?_)) <;> first | (exfalso; omega) | skip) | ((with_reducible refine w_geq_NN (fun _ => ?_) (fun _ => ?_)) <;> first | (exfalso; omega) | skip) | ((with_reducible refine w_add_NN ?_ ?_) ; omega) | ((with_reducible refine w_sub_NN ?_ ?_ ?_) ; omega; omega) | ((with_reducible refine w_quo_NN ?_ ?_ ?_) ; omega; omega) | ((with_reducible apply w_load 0 H) ; rfl; rfl; rfl) | ((with_reducible apply w_loadR 3 H) ; rfl; rfl; rfl))
 rw [show (D.length + 64 - 1) / 64 = (D.length + 63) / 64 by omega]
 refine w_call (tk _ (.slice a0 d.rs.length c0) (EdAt.of 2 3 H rfl rfl x h3 h2 E.sm) ⟨H.rd 1 rfl, H.neR (i := 2) (j := 1) rfl rfl (by decide)⟩) fun v5 u5 hv => ?_
 obtain ⟨a1, c1, rfl, n5⟩ := hv
 replace H := H.call n5.rl
 repeat' (first | (with_reducible refine w_jn ?_) | (with_reducible refine w_cndF ?_) | (with_reducible refine w_fieldA ?_) | (with_reducible refine w_lenV ?_) | ((with_reducible apply w_extr) ; rfl) | ((with_reducible refine w_neq_NN (fun _ => ?_) (fun _ => ?_)) <;> first | (exfalso; omega) | skip) | ((with_reducible apply w_store1 1 H) ; rfl; (simp only [List.length_cons, List.length_nil]; omega); rfl; (clear H; intro u H hu; (try dsimp only [List.set_cons_zero, List.set_cons_succ, cellsL, List.toList_toArray, splice, ev, rep, List.cons_append, List.nil_append] at H))) | ((with_reducible apply w_loadsF 1 H) ; rfl; rfl; rfl))
 refine w_call ((cs _ g p b c s0 W n (fillN d D l) a1 c1 (EdAt.of 3 4 H rfl rfl x h3 h2 E.sm) gm ⟨H.rd 0 rfl, H.neR (i := 3) (j := 0) rfl rfl (by decide)⟩ (by omega)).1 d.rs hd.1 hd.2.1 gd (.inl ⟨d, hd, rfl⟩)) fun v6 u6 q => ?_
 obtain ⟨rfl, mu, hw⟩ := q
 replace H := H.mut 3 rfl mu hw
 dsimp only [List.set_cons_zero, List.set_cons_succ] at H
 have wl := setNodeW_len (i := n) (old := d.rs) (d := fillN d D l) x h2 gf
 have ws := setNodeW_small (i := n) (g := g) (old := d.rs) (d := fillN d D l) E.sm gf
 generalize setNodeW g W n d.rs (fillN d D l) = W1 at *
 refine w_callE (ct l _ _ cnt (by omega) (H.rd 0 rfl)) ?_
 rw [← needs]
 repeat' (first | (with_reducible refine w_jn ?_))
 obtain ⟨m0, hm0, H0⟩ : ∃ m0, m0 = _ ∧ Sto h [b] _ m0 := ⟨_, rfl, H⟩
 refine lp_ind (Good := fun n2 (self : L11) => ∀ (i : Nat) (y1 y2 y3 y4 y5 y6 y7 y8 y9 y10 : Value) (w : Hs), i + n2 = sumR l → Sto h [b] w (m0.set 3 (.blk b (wdO (fillTo W1 l D i)))) → WP (self (.int .i64 (.ofNat i)) y1 y2 y3 y4 y5 y6 y7 y8 y9 y10 w) (QW h b (.int .i64 (.ofNat 0)) (fillTo W1 l D (sumR l)))) (fun n2 self ih i y1 y2 y3 y4 y5 y6 y7 y8 y9 y10 w hi H1 => ?_) N (sumR l) (by omega) 0 _ _ _ _ _ _ _ _ _ _ _ (by omega) (by rw [hm0]; exact H)
 clear H0 H
 have hm1 := hm0
 rw [hm0] at H1
 have H := H1
 clear H1
 dsimp only [List.set_cons_zero, List.set_cons_succ] at H
 have fl2 := fillTo_len (D := D) wl gr i (by omega)
 have fs2 := fillTo_small (l := l) (D := D) ws i
 repeat' (first | (with_reducible refine w_jn ?_) | (with_reducible refine w_cndT ?_) | (with_reducible refine w_cndF ?_) | (with_reducible refine w_lenV ?_) | (with_reducible refine w_min_NN ?_) | ((with_reducible refine w_mkslice H ?_ ?_ ?_) ; omega; rfl; (clear H; intro u H hu)) | ((with_reducible refine w_lss_NN (fun _ => ?_) (fun _ => ?_)) <;> first | (exfalso; omega) | skip) | ((with_reducible refine w_add_NN ?_ ?_) ; omega) | ((with_reducible refine w_mul_NN ?_ ?_) ; omega))
 ·have ck : (Bl D |>.drop (64 * i)).take (min (64 * (i + 1)) D.length - 64 * i) = Bl (chunk D i) := by
   rw [Bl_drop, Bl_take]
   unfold chunk
   congr 1
   have ld : (D.drop (64 * i)).length = D.length - 64 * i := List.length_drop
   by_cases q : 64 * (i + 1) ≤ D.length
   ·rw [show min (64 * (i + 1)) D.length - 64 * i = 64 by omega]
   ·rw [List.take_of_length_le (by omega), List.take_of_length_le (by omega)]
  have cl : (chunk D i).length ≤ 64 := by unfold chunk; rw [List.length_take]; omega
  refine w_slLH 6 H rfl (by omega) (by omega) fun s H1 => ?_
  clear H
  rw [ck] at H1
  generalize hC : chunk D i = C at H1 cl
  obtain ⟨aS, cs', rfl⟩ := (H1.rd 0 rfl).1.formN (Bl_len C)
  rw [show rep [Value.int .u64 (.ofNat 0)] 8 = Wc (List.replicate 8 0) from rfl] at H1
  have H := H1.osl 1 rfl (n := 8) (c := 8) rfl (Nat.le_refl _)
  clear H1
  dsimp only [List.set_cons_zero, List.set_cons_succ] at H
  repeat' (first | (with_reducible refine w_jn ?_) | (with_reducible refine w_lenV ?_))
  obtain ⟨k0, hk0, K0⟩ : ∃ k0, k0 = _ ∧ Sto h [b] _ k0 := ⟨_, rfl, H⟩
  refine lp_ind (Good := fun n3 (self3 : L4) => ∀ (j : Nat) (z1 z2 z3 : Value) (w2 : Hs), j + n3 = C.length → Sto h [b] w2 (k0.set 1 (.osl (.slice (some ⟨w.nx, 0, none⟩) 8 8) 39 1 true 8 (Wc (packTo C j)))) → WP (self3 (.int .i64 (.ofNat j)) z1 z2 z3 w2) (QW h b (.int .i64 (.ofNat 0)) (fillTo W1 l D (sumR l)))) (fun n3 self3 ih3 j z1 z2 z3 w2 hj H2 => ?_) N C.length (by omega) 0 _ _ _ _ (by omega) (by rw [hk0]; exact H)
  clear K0 H
  have hk1 := hk0
  rw [hk0] at H2
  have H := H2
  clear H2
  dsimp only [List.set_cons_zero, List.set_cons_succ] at H
  have pl := packTo_len C j
  have ps := packTo_small C j
  repeat' (first | (with_reducible refine w_jn ?_) | (with_reducible refine w_cndT ?_) | (with_reducible refine w_cndF ?_) | ((with_reducible refine w_lss_NN (fun _ => ?_) (fun _ => ?_)) <;> first | (exfalso; omega) | skip))
  ·have jj : j < C.length := by omega
   have jw : j / 8 < (packTo C j).length := by omega
   refine w_at1 0 H rfl (Bl_get jj) rfl rfl ?_
   have cb := C[j].toNat_lt
   have gw := ps _ (List.getElem_mem jw)
   have gd2 : (packTo C j).getD (j / 8) 0 = (packTo C j)[j / 8] := by rw [List.getD_eq_getElem?_getD, List.getElem?_eq_getElem jw]; rfl
   have gc : (C.getD j 0).toNat = C[j].toNat := by rw [List.getD_eq_getElem?_getD, List.getElem?_eq_getElem jj]; rfl
   repeat' (first | ((with_reducible refine w_quo_NN ?_ ?_ ?_) ; omega; omega))
   refine w_atO 1 H rfl (Wc_get jw) rfl ?_
   repeat' (first | ((with_reducible refine w_mul_NN ?_ ?_) ; omega) | ((with_reducible refine w_rem_NN ?_ ?_) ; omega) | ((with_reducible refine w_toU ?_ ?_) ; omega) | ((with_reducible refine w_shl ?_ ?_) ; omega) | ((with_reducible refine w_uor ?_ ?_ ?_) ; omega; omega))
   refine w_storeO 1 H rfl (by rw [Wc_len]; exact jw) rfl fun u' H2 hu' => ?_
   rw [Wc_set] at H2
   clear H; have H := H2; clear H2
   dsimp only [List.set_cons_zero, List.set_cons_succ] at H
   refine w_bar (by omega) ?_
   repeat' (first | ((with_reducible refine w_add_NN ?_ ?_) ; omega))
   refine ih3 (n3 - 1) (by omega) (j + 1) _ _ _ _ (by omega) ?_
   rw [hk1, packTo_succ]
   unfold packS
   rw [gd2, gc]
   exact H
  ·obtain rfl : j = C.length := by omega
   obtain ⟨at_, ea, ha⟩ := runAt_lt (i := i) gr (by omega)
   have cai : ∀ u w, Rd u w 2 (Rl l) → R 30 [w, .int .i64 (.ofNat i)] u = some (.val (.tuple #[.int .i64 (.ofNat at_), .bool true]) u) := fun u w q => by rw [ca l i w u cnt (by omega) (by omega) q, ea]; rfl
   skip
   refine w_callE (cai _ _ (H.rd 2 rfl)) ?_
   repeat' (first | ((with_reducible apply w_extr) ; rfl))
   refine w_call (cp _ g p b c s0 _ at_ (packW C) _ (EdAt.of 5 6 H rfl rfl x h3 fl2 fs2) ha (by unfold packW; omega) (RdX.ofO 5 1 H rfl rfl)) fun v7 u7 q => ?_
   obtain ⟨rfl, mu, hw⟩ := q
   replace H := H.mut 5 rfl mu hw
   dsimp only [List.set_cons_zero, List.set_cons_succ] at H
   repeat' (first | ((with_reducible refine w_add_NN ?_ ?_) ; omega))
   refine ih (n2 - 1) (by omega) (i + 1) _ _ _ _ _ _ _ _ _ _ _ (by omega) ?_
   rw [hm1, fillTo_succ, ea, hC]
   exact H.tail.tail
 ·rw [show i = sumR l by omega] at H
  exact w_clrM 3 H rfl E.bl rfl fun h'' a b => ⟨rfl, a, b⟩
def hasBit (B : List Nat) (i : Nat) : Bool := decide (i / 64 < B.length) && decide (B.getD (i / 64) 0 / 2 ^ (i % 64) &&& 1 = 1)
def CHas (R : RnK) : Prop := ∀ (B : List Nat) (i : Nat) (v : Value) (h : Hs), Small B → B.length < 100000 → i ≤ 1000000 → Rd h v 1 (Wl B) → R 32 [.agg #[v], .int .i64 (.ofNat i)] h = some (.val (.bool (hasBit B i)) h)
theorem has_ok {R : RnK} {N : Nat} (ct : CThere R) {B : List Nat} {i : Nat} {v : Value} {h : Hs} (sm : Small B) (hb : B.length < 100000) (hi : i ≤ 1000000) (r : Rd h v 1 (Wl B)) : r32 R N [.agg #[v], .int .i64 (.ofNat i)] h = some (.val (.bool (hasBit B i)) h) := by
 refine WP.eqn ?_
 unfold r32
 have H := Sto.enter1 r
 obtain ⟨a, c, rfl⟩ := r.1.formN (Wl_len B)
 have l1 := Wl_len B
 repeat' (first | (with_reducible refine w_unC ?_) | (with_reducible refine w_enK ?_) | ((with_reducible refine w_boxA H ?_) ; (clear H; intro u H hu)) | ((with_reducible apply w_loadsF 0 H) ; rfl; rfl; rfl))
 refine w_callB (ct _ B (i : Int) _ hb (by omega) (H.rd 1 rfl)) (fun q => ?_) (fun q => ?_)
 ·have q2 : i / 64 < B.length := q.2
  have gw := sm _ (List.getElem_mem q2)
  have gd2 : B.getD (i / 64) 0 = B[i / 64] := by rw [List.getD_eq_getElem?_getD, List.getElem?_eq_getElem q2]; rfl
  have d1 : B[i / 64] / 2 ^ (i % 64) ≤ B[i / 64] := Nat.div_le_self _ _
  unfold hasBit
  rw [gd2]
  repeat' (first | (with_reducible refine w_gTt ?_) | (with_reducible refine w_fieldA ?_) | ((with_reducible refine w_quo_NN ?_ ?_ ?_) ; omega; omega) | ((with_reducible apply w_load 0 H) ; rfl; rfl; rfl))
  refine w_idxR 1 H rfl (Wl_get q2) fun bb oo H1 => ?_
  repeat' (first | (with_reducible refine w_gTt ?_))
  refine w_loadE0 0 H1 rfl rfl rfl ?_
  clear H1
  repeat' (first | (with_reducible refine w_gTt ?_) | (with_reducible refine w_pickT ?_) | ((with_reducible refine w_ueql (fun _ => ?_) (fun _ => ?_)) <;> first | (exfalso; omega) | skip) | ((with_reducible refine w_rem_NN ?_ ?_) ; omega) | ((with_reducible refine w_shr ?_ ?_) ; omega) | ((with_reducible refine w_uand ?_ ?_ ?_) ; omega; omega))
  all_goals exact w_clr H rfl ⟨by congr 1; rw [decide_eq_true q2, Bool.true_and]; symm; first | exact decide_eq_true ‹_› | exact decide_eq_false ‹_›, rfl⟩
 ·repeat' (first | (with_reducible refine w_gTf ?_) | (with_reducible refine w_pickF ?_))
  refine w_clr H rfl ⟨?_, rfl⟩
  congr 1
  unfold hasBit
  have : ¬ i / 64 < B.length := fun z => q ⟨by omega, z⟩
  simp [this]
def diffs (W0 W : List Nat) (i : Nat) : List (Nat × Nat) := (List.range i).filterMap fun k => if W0.getD k 0 = W.getD k 0 then none else some (k, W.getD k 0)
def wrv (r : Nat × Nat) : List Value := [.int .i64 (.ofNat r.1), .int .u64 (.ofNat r.2)]
def Wr (l : List (Nat × Nat)) : List Value := (l.map wrv).flatten
theorem diffs_succ (W0 W : List Nat) (i : Nat) : diffs W0 W (i + 1) = diffs W0 W i ++ (if W0.getD i 0 = W.getD i 0 then [] else [(i, W.getD i 0)]) := by
 unfold diffs
 rw [List.range_succ, List.filterMap_append]
 congr 1
 by_cases q : W0.getD i 0 = W.getD i 0
 ·rw [if_pos q]; simp only [List.filterMap_cons, if_pos q, List.filterMap_nil]
 ·rw [if_neg q]; simp only [List.filterMap_cons, if_neg q, List.filterMap_nil]
theorem diffs_len (W0 W : List Nat) (i : Nat) : (diffs W0 W i).length ≤ i := by
 have := List.length_filterMap_le (fun k => if W0.getD k 0 = W.getD k 0 then none else some (k, W.getD k 0)) (List.range i)
 rw [List.length_range] at this
 exact this
theorem Wr_snoc (l : List (Nat × Nat)) (x : Nat × Nat) : Wr (l ++ [x]) = Wr l ++ wrv x := by
 unfold Wr; rw [List.map_append, List.flatten_append]; show _ ++ (wrv x ++ []) = _; rw [List.append_nil]
theorem EdAt.rdw {h : Hs} {g : Geo} {p b c : Nat} {s0 : Value} {W : List Nat} (E : EdAt h g p b c s0 W) : Rd h (.slice (some ⟨b, 0, none⟩) (8 * g.b) c) 1 (Wl W) := by
 obtain ⟨fl, H⟩ := E.enter [] (fun t ht => by cases ht)
 rw [Wl_ones]
 exact H.rdB 0 rfl (by rw [Wc_len]; exact E.len) E.cap
def CWrites (R : RnK) : Prop := ∀ (h : Hs) (g : Geo) (p b c : Nat) (s0 : Value) (W W0 : List Nat), EdAt h g p b c s0 W → Rd h s0 1 (Wl W0) → W0.length = 8 * g.b → Small W0 → bitsW g W0 = bitsW g W →
 WP (R 11 [pV p] h) fun r h' => ∃ s, r = .tuple #[.slice none 0 0, s] ∧ New h h' (.osl s 41 2 true (diffs W0 W (8 * g.b)).length (Wr (diffs W0 W (8 * g.b))))
theorem writes_ok {R : RnK} {N : Nat} (cb : CImgBits R) (ch : CHas R) {h : Hs} {g : Geo} {p b c : Nat} {s0 : Value} {W W0 : List Nat} (hN : 100000 < N) (E : EdAt h g p b c s0 W) (r0 : Rd h s0 1 (Wl W0)) (l0 : W0.length = 8 * g.b) (sm0 : Small W0) (be : bitsW g W0 = bitsW g W) :
 WP (r11 R N [pV p] h) fun r h' => ∃ s, r = .tuple #[.slice none 0 0, s] ∧ New h h' (.osl s 41 2 true (diffs W0 W (8 * g.b)).length (Wr (diffs W0 W (8 * g.b)))) := by
 unfold r11
 have cb0 := cb g W0 s0
 have cb1 := cb g W (.slice (some ⟨b, 0, none⟩) (8 * g.b) c)
 unfold imgV at cb0 cb1
 obtain ⟨fl, hrow⟩ := E.row
 have rw_ := E.rdw
 have H := Sto.enterR h [.rob p (edO g fl b c s0), .rsl (.slice (some ⟨b, 0, none⟩) (8 * g.b) c) 1 (Wl W), .rsl s0 1 (Wl W0)] (fun t ht => by
  simp only [List.mem_cons, List.not_mem_nil, or_false] at ht
  rcases ht with rfl | rfl | rfl
  ·exact ⟨rfl, hrow, fun b' hb' => by injection hb' with e; subst e; exact E.pl⟩
  ·exact ⟨rfl, rw_.1, fun b' hb' => rw_.2 b' hb'⟩
  ·exact ⟨rfl, r0.1, fun b' hb' => r0.2 b' hb'⟩)
 obtain ⟨a0, c0, rfl⟩ := r0.1.formN (Wl_len W0)
 have x := E.ok
 have h1 := x.1.b2
 have h2 := E.len
 have h4 := x.1.num
 have l1 := Wl_len W
 have l2 := Wl_len W0
 have bl := bitsW_len x h2
 have bs := bitsW_small (g := g) E.sm
 have bw0 : (W0.drop (8 * g.bitsAt)).take (8 * g.bitsN) = bitsW g W := be
 have bw1 : (W.drop (8 * g.bitsAt)).take (8 * g.bitsN) = bitsW g W := rfl
 rw [bw0] at cb0
 rw [bw1] at cb1
 unfold edO edC at H
 repeat' (first | (with_reducible refine w_unC ?_) | (with_reducible refine w_enK ?_) | (with_reducible refine w_fieldA ?_) | (with_reducible refine w_nil ?_) | ((with_reducible apply w_loadsR 0 H) ; rfl; rfl; rfl; rfl; (try dsimp only [List.drop_zero, List.drop_succ_cons, List.take_succ_cons, List.take_zero])))
 refine w_call (cb0 _ x l0 (H.rd 2 rfl)) fun v1 u1 n1 => ?_
 obtain ⟨s1, rfl, n1⟩ := n1
 refine w_light n1 fun u2 n2 => ?_
 replace n2 := n2.ones
 rw [← Wl_ones] at n2
 obtain ⟨a1, c1, rfl⟩ := n2.2.1.formN ((Wl_len _).trans bl)
 have nn := n2.1.1.1
 replace H := H.call n2
 clear n1
 repeat' (first | (with_reducible refine w_fieldA ?_) | (with_reducible refine w_nil ?_))
 have pe : (dHidS DK.light [true, true, true, false, false, false, false, false] [none, none, none, some (h.nx, u2.nx), none, none, none, none] u2).hp.get p = u2.hp.get p := hideS_get _ _ _ _ ⟨E.pl, trivial⟩
 refine w_loadsR 1 H rfl pe rfl rfl ?_
 refine w_call (cb1 _ x h2 (H.rd 2 rfl)) fun v3 u3 n3 => ?_
 obtain ⟨s3, rfl, n3⟩ := n3
 replace n3 := n3.ones
 rw [← Wl_ones] at n3
 obtain ⟨a3, c3, rfl⟩ := n3.2.1.formN ((Wl_len _).trans bl)
 have nn3 := n3.1.1.1
 replace H := H.call n3
 refine w_bar nn3 ?_
 repeat' (first | (with_reducible refine w_jn ?_) | (with_reducible refine w_fieldA ?_) | (with_reducible refine w_nil ?_) | (with_reducible refine w_lenV ?_) | (with_reducible refine w_st1A ?_) | ((with_reducible refine w_bar ?_ ?_) ; omega) | ((with_reducible refine w_allocM H ?_) ; (clear H; intro u H hu)) | ((with_reducible apply w_storeV 0 H) ; rfl; rfl; rfl; omega; rfl; (clear H; intro u H hu; (try dsimp only [List.set_cons_zero, List.set_cons_succ, cellsL, List.toList_toArray, splice, ev, rep, List.cons_append, List.nil_append] at H))) | ((with_reducible apply w_storeV 1 H) ; rfl; rfl; rfl; omega; rfl; (clear H; intro u H hu; (try dsimp only [List.set_cons_zero, List.set_cons_succ, cellsL, List.toList_toArray, splice, ev, rep, List.cons_append, List.nil_append] at H))) | ((with_reducible apply w_loadR 4 H) ; rfl; rfl; rfl))
 replace H := H.nilS 41 2
 obtain ⟨m0, hm0, H0⟩ : ∃ m0, m0 = _ ∧ Sto h [] _ (_ :: m0) := ⟨_, rfl, H⟩
 refine lp_ind (Good := fun n (self : L9) => ∀ (i : Nat) (y1 y2 y3 y4 y6 y7 : Value) (cur : Value) (w : Hs), i + n = 8 * g.b → Sto h [] w (.osl cur 41 2 true (diffs W0 W i).length (Wr (diffs W0 W i)) :: m0) → WP (self (.int .i64 (.ofNat i)) y1 y2 y3 y4 (.slice none 0 0) y6 y7 cur w) (fun r h' => ∃ s, r = .tuple #[.slice none 0 0, s] ∧ New h h' (.osl s 41 2 true (diffs W0 W (8 * g.b)).length (Wr (diffs W0 W (8 * g.b)))))) (fun n self ih i y1 y2 y3 y4 y6 y7 cur w hi H1 => ?_) N (8 * g.b) (by omega) 0 _ _ _ _ _ _ _ _ (by omega) (by rw [hm0]; exact H)
 clear H0 H
 have hm1 := hm0
 rw [hm0] at H1
 have H := H1
 clear H1
 obtain ⟨ac, cc, rfl⟩ := (show OwnSl w cur 41 2 _ _ _ from H.ok _ (List.mem_of_getElem? (i := 0) rfl)).form
 have dl := diffs_len W0 W i
 have ds := diffs_succ W0 W i
 repeat' (first | (with_reducible refine w_jn ?_) | (with_reducible refine w_cndT ?_) | (with_reducible refine w_cndF ?_) | ((with_reducible refine w_lss_NN (fun _ => ?_) (fun _ => ?_)) <;> first | (exfalso; omega) | skip))
 ·have iw : i < W.length := by omega
  have iw0 : i < W0.length := by omega
  have e1 : W.getD i 0 = W[i] := by rw [List.getD_eq_getElem?_getD, List.getElem?_eq_getElem iw]; rfl
  have e0 : W0.getD i 0 = W0[i] := by rw [List.getD_eq_getElem?_getD, List.getElem?_eq_getElem iw0]; rfl
  refine w_at1 6 H rfl (Wl_get iw) rfl rfl ?_
  repeat' (first | (with_reducible refine w_jn ?_) | ((with_reducible refine w_quo_NN ?_ ?_ ?_) ; omega; omega) | ((with_reducible apply w_loadsF 2 H) ; rfl; rfl; rfl))
  obtain ⟨q, hq⟩ : ∃ q, hasBit (bitsW g W) (i / 8) = q := ⟨_, rfl⟩
  have chh : ∀ v u, Rd u v 1 (Wl (bitsW g W)) → R 32 [.agg #[v], .int .i64 (.ofNat (i / 8))] u = some (.val (.bool q) u) := fun v u r => by rw [ch (bitsW g W) (i / 8) v u bs (by omega) (by omega) r, hq]
  refine w_callE (chh _ _ (H.rd 4 rfl)) ?_
  cases q
  all_goals
   repeat' (first | (with_reducible refine w_jn ?_) | (with_reducible refine w_cndF ?_) | (with_reducible refine w_gTt ?_) | (with_reducible refine w_gTf ?_) | (with_reducible refine w_pickF ?_) | (with_reducible refine w_notT ?_) | (with_reducible refine w_notF ?_) | (with_reducible refine w_fieldA ?_) | (with_reducible refine w_nil ?_) | ((with_reducible apply w_loadsF 1 H) ; rfl; rfl; rfl) | ((with_reducible apply w_loadR 5 H) ; rfl; rfl; rfl))
   try (refine w_callE (chh _ _ (H.rd 3 rfl)) ?_)
   repeat' (first | (with_reducible refine w_jn ?_) | (with_reducible refine w_cndF ?_) | (with_reducible refine w_pickT ?_) | (with_reducible refine w_fieldA ?_) | (with_reducible refine w_nil ?_) | ((with_reducible apply w_loadR 5 H) ; rfl; rfl; rfl))
   refine w_at1 7 H rfl (Wl_get iw0) rfl rfl ?_
   repeat' (first | (with_reducible refine w_jn ?_) | (with_reducible refine w_cndT ?_) | (with_reducible refine w_cndF ?_) | ((with_reducible apply w_build) ; rfl; (try dsimp only [splice, ev, cellsL, rep, List.cons_append, List.nil_append])) | ((with_reducible apply w_mkrow H) ; rfl; (clear H; intro u H hu; (try dsimp only [List.set_cons_zero, List.set_cons_succ, cellsL, List.toList_toArray, splice, ev, rep, List.cons_append, List.nil_append] at H))) | ((with_reducible refine w_uneq (fun _ => ?_) (fun _ => ?_)) <;> first | (exfalso; omega) | skip) | ((with_reducible refine w_add_NN ?_ ?_) ; omega))
   ·rw [e0, e1, if_pos (by assumption), List.append_nil] at ds
    refine ih (n - 1) (by omega) (i + 1) _ _ _ _ _ _ _ _ (by omega) ?_
    rw [hm1, ds]
    exact H
   ·refine w_appendB 1 0 H rfl rfl rfl rfl (by omega) (by omega) fun v3 u4 H4 hn4 => ?_
    clear H
    have H := H4.tail
    clear H4
    dsimp only [List.set_cons_zero, List.set_cons_succ] at H
    rw [e0, e1, if_neg (by assumption)] at ds
    have wr : Wr (diffs W0 W (i + 1)) = Wr (diffs W0 W i) ++ [.int .i64 (.ofNat i), .int .u64 (.ofNat W[i])] := by rw [ds]; exact Wr_snoc _ _
    have dl2 : (diffs W0 W (i + 1)).length = (diffs W0 W i).length + 1 := by rw [ds, List.length_append]; rfl
    repeat' (first | ((with_reducible refine w_add_NN ?_ ?_) ; omega))
    refine ih (n - 1) (by omega) (i + 1) _ _ _ _ _ _ _ _ (by omega) ?_
    rw [hm1, wr, dl2]
    exact H
 ·obtain rfl : i = 8 * g.b := by omega
  dsimp only
  exact w_clrC (fun v => .tuple #[.slice none 0 0, v]) 0 H rfl (fun _ _ _ => by simp [blkV, blkP, blkC]) (fun _ _ _ _ => rfl) fun v' h' n' => ⟨_, rfl, n'⟩
end Go.Proofs.Ytmolikcajfphlaa.editClears

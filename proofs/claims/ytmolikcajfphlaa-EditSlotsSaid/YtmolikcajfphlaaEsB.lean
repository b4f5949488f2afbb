/- Contracts of functions, by the logic of residual programs. -/
import Derived.Test.YtmolikcajfphlaaEsA
namespace Go.Proofs.Ytmolikcajfphlaa.editSlots
open Go Go.Gev
set_option linter.unusedVariables false
def blockAt (l : List Nat) (i : Nat) : List Nat := (l.drop (8 * i)).take 8
theorem blockAt_len {l : List Nat} {i : Nat} (h : 8 * i + 8 ≤ l.length) : (blockAt l i).length = 8 := by
 unfold blockAt; rw [List.length_take, List.length_drop]; omega
def CBlock (R : RnK) : Prop := ∀ (g : Geo) (l : List Nat) (s : Value) (i : Nat) (h : Hs), l.length < 100000 → Rd h s 1 (Wl l) → 8 * i + 8 ≤ l.length →
 WP (R 34 [imgV g s, .int .i64 (.ofNat i)] h) fun v h' => New h h' (OW v (blockAt l i))
theorem block_ok {R : RnK} {N : Nat} (cc : CCloneW R) {g : Geo} {l : List Nat} {s : Value} {i : Nat} {h : Hs} (hb : l.length < 100000) (r : Rd h s 1 (Wl l)) (hi : 8 * i + 8 ≤ l.length) :
 WP (r34 R N [imgV g s, .int .i64 (.ofNat i)] h) fun v h' => New h h' (OW v (blockAt l i)) := by
 unfold r34 imgV
 obtain ⟨a, c, rfl⟩ := r.1.form
 have H := Sto.enter1 r
 have e := Wl_len l
 repeat' (first | (with_reducible refine w_jn ?_) | (with_reducible refine w_cndF ?_) | (with_reducible refine w_gFf ?_) | (with_reducible refine w_pickF ?_) | (with_reducible refine w_unC ?_) | (with_reducible refine w_enK ?_) | (with_reducible refine w_fieldA ?_) | (with_reducible refine w_lenV ?_) | ((with_reducible refine w_boxA H ?_) ; (clear H; intro u H hu)) | ((with_reducible refine w_lss_NN (fun _ => ?_) (fun _ => ?_)) <;> first | (exfalso; omega) | skip) | ((with_reducible refine w_geq_NN (fun _ => ?_) (fun _ => ?_)) <;> first | (exfalso; omega) | skip) | ((with_reducible refine w_add_NN ?_ ?_) ; omega) | ((with_reducible refine w_mul_NN ?_ ?_) ; omega) | ((with_reducible refine w_quo_NN ?_ ?_ ?_) ; omega; omega) | ((with_reducible apply w_load 0 H) ; rfl; rfl; rfl))
 refine w_slLH 1 H rfl (by omega) (by omega) fun s2 H2 => ?_
 clear H
 rw [Wl_drop, Wl_take, show 8 * (i + 1) - 8 * i = 8 by omega] at H2
 refine w_call (cc _ _ _ (by rw [show (l.drop (8 * i)).take 8 = blockAt l i from rfl, blockAt_len hi]; omega) (H2.rd 0 rfl)) fun v' u2 n => ?_
 have H := H2.call n
 exact w_clrO 0 H rfl fun v' h' n => n
def decR (v : Nat) : Nat × Nat := (v &&& 4294967295, v / 2 ^ 32)
def decRs (l : List Nat) : List (Nat × Nat) := (l.takeWhile fun v => v != 0).map decR
def decN (a b : Nat) (rs : List Nat) : Nd := ⟨a &&& 255, a / 2 ^ 8, b, decRs rs⟩
theorem w_jnG {Q : Value → Hs → Prop} {T : Type} {k : T} {F : T → An} (w : ∀ K : T, K = k → WP (F K) Q) : WP (jn k F) Q := w k rfl
def getNode (l : List Nat) : Option Nd := match l with
 | [a, b, r0, r1, r2, r3, _, _] => if a / 2 ^ 32 = 0 ∧ b ≤ 1099511627776 ∧ (decN a b [r0, r1, r2, r3]).fits ∧ nodeW (decN a b [r0, r1, r2, r3]) = l then some (decN a b [r0, r1, r2, r3]) else none
 | _ => none
def Rc (l : List (Nat × Nat)) : List Value := (Rl l).flatten
theorem Rc_snoc (l : List (Nat × Nat)) (x : Nat × Nat) : Rc (l ++ [x]) = Rc l ++ rv x := by
 unfold Rc Rl; rw [List.map_append, List.flatten_append]; show _ ++ (rv x ++ []) = _; rw [List.append_nil]
theorem _root_.Go.Gev.Sto.rdOU {h0 h : Hs} {S : List Nat} {m : List Th} (k : Nat) {v : Value} {e u n : Nat} {fl : Bool} {L : List Value} {Ls : List (List Value)} (H : Sto h0 S h m) (hk : m[k]? = some (.osl v e u fl n L)) (hL : L = Ls.flatten) (hu : ∀ l ∈ Ls, l.length = u) (hn : Ls.length = n) : Rd h v u Ls := by
 obtain ⟨hl, o⟩ := H.ok _ (List.mem_of_getElem? hk)
 have hid := H.ids _ (List.mem_of_getElem? hk)
 rcases o with ⟨rfl, rfl⟩ | ⟨id, c, cs, sz, f, rfl, hc, hb, hf, hsz, hc'⟩
 ·have : Ls = [] := List.eq_nil_of_length_eq_zero hn
  subst this
  exact Rd.none _ _
 ·refine ⟨⟨hu, .inr ⟨id, 0, c, cs, sz, e, u, true, f, by rw [hn], by omega, hb, .inr rfl, fun i j l hi hj => ?_⟩⟩, fun b' hb' => ?_⟩
  ·have hx := flatten_get hu i j hj
   rw [hi] at hx
   have hll := hu l (List.mem_of_getElem? hi)
   have hlt : i * u + j < L.length := by
    have := (List.getElem?_eq_some_iff.1 hi).1
    rw [hl]
    have : (i + 1) * u ≤ n * u := Nat.mul_le_mul_right _ (by omega)
    rw [Nat.add_mul] at this
    omega
   rw [Nat.zero_add, hc' _ hlt, hL, hx]; rfl
  ·have : b' = id := by
    cases hq : Ls with
    | nil => rw [hq] at hb'; cases hb'
    | cons x Ls' => rw [hq] at hb'; injection hb' with q; exact q.symm
   subst this
   exact (hid _ rfl).1
theorem _root_.Go.Gev.Sto.rdOR {h0 h : Hs} {S : List Nat} {m : List Th} (k : Nat) {v : Value} {l : List (Nat × Nat)} (H : Sto h0 S h m) (hk : m[k]? = some (.osl v 87 2 true l.length (Rc l))) : Rd h v 2 (Rl l) :=
 H.rdOU k hk rfl (Rl_two l) (Rl_len l)
theorem decRs_at {l : List Nat} {i : Nat} (hi : i < l.length) (h : ∀ x ∈ l.take i, x ≠ 0) (z : l[i] = 0) : decRs l = (l.take i).map decR := by
 unfold decRs
 congr 1
 conv => lhs; rw [← List.take_append_drop i l]
 rw [List.takeWhile_append_of_pos (by intro x hx; simpa using h x hx), List.drop_eq_getElem_cons hi, List.takeWhile_cons_of_neg (by simp [z]), List.append_nil]
theorem decRs_all {l : List Nat} (h : ∀ x ∈ l, x ≠ 0) : decRs l = l.map decR := by
 unfold decRs
 congr 1
 have := List.takeWhile_append_of_pos (p := fun v => v != 0) (l₁ := l) (l₂ := []) (by intro x hx; simpa using h x hx)
 simpa using this
def nd0 : Nd := ⟨0, 0, 0, []⟩
abbrev OR (v : Value) (l : List (Nat × Nat)) : Th := .osl v 87 2 true l.length (Rc l)
def QGet (l : List Nat) (h : Hs) (r : Value) (h' : Hs) : Prop := match getNode l with
 | some d => ∃ a c, r = .tuple #[d.v a c, .bool true] ∧ New h h' (OR (.slice a d.rs.length c) d.rs)
 | none => r = .tuple #[nd0.v none 0, .bool false] ∧ h' = h
def CNodeGet (R : RnK) : Prop := ∀ (l : List Nat) (v : Value) (h : Hs), Small l → l.length < 100000 → Rd h v 1 (Wl l) → WP (R 33 [v] h) (QGet l h)
theorem getNode_len {l : List Nat} (h : l.length ≠ 8) : getNode l = none := by
 unfold getNode
 split
 ·exact absurd rfl h
 ·rfl
theorem nodeGet_ok {R : RnK} {N : Nat} (cp : CNodePut R) (ce : CEqW R) {l : List Nat} {v : Value} {h : Hs} (hN : 100 < N) (hl : Small l) (hb : l.length < 100000) (r : Rd h v 1 (Wl l)) : WP (r33 R N [v] h) (QGet l h) := by
 unfold r33
 have H := Sto.enter1 r
 have e := Wl_len l
 obtain ⟨a, c, rfl⟩ := r.1.formN e
 by_cases h8 : l.length = 8
 ·obtain ⟨x0, x1, x2, x3, x4, x5, x6, x7, rfl⟩ : ∃ x0 x1 x2 x3 x4 x5 x6 x7, l = [x0, x1, x2, x3, x4, x5, x6, x7] := by
   match l, h8 with
   | [x0, x1, x2, x3, x4, x5, x6, x7], _ => exact ⟨_, _, _, _, _, _, _, _, rfl⟩
  have b0 : x0 < 18446744073709551616 := hl x0 (by simp)
  have b1 : x1 < 18446744073709551616 := hl x1 (by simp)
  have b2 : x2 < 18446744073709551616 := hl x2 (by simp)
  have b3 : x3 < 18446744073709551616 := hl x3 (by simp)
  have b4 : x4 < 18446744073709551616 := hl x4 (by simp)
  have b5 : x5 < 18446744073709551616 := hl x5 (by simp)
  repeat' (first | (with_reducible refine w_gFf ?_) | (with_reducible refine w_unC ?_) | (with_reducible refine w_enK ?_) | (with_reducible refine w_lenV ?_) | ((with_reducible refine w_alloc H ?_) ; (clear H; intro u H hu)) | ((with_reducible refine w_neq_NN (fun _ => ?_) (fun _ => ?_)) <;> first | (exfalso; omega) | skip))
  ·have g0 : (Wl [x0, x1, x2, x3, x4, x5, x6, x7])[0]? = some [.int .u64 (.ofNat x0)] := rfl
   have g1 : (Wl [x0, x1, x2, x3, x4, x5, x6, x7])[1]? = some [.int .u64 (.ofNat x1)] := rfl
   refine w_idxR 1 H rfl g0 fun bb oo H1 => ?_
   repeat' (first | (with_reducible refine w_gFf ?_))
   refine w_loadE0 0 H1 rfl rfl rfl ?_
   clear H1
   repeat' (first | (with_reducible refine w_jn ?_) | (with_reducible refine w_cndT ?_) | (with_reducible refine w_gFt ?_) | (with_reducible refine w_gFf ?_) | (with_reducible refine w_pickT ?_) | (with_reducible refine w_pickF ?_) | ((with_reducible apply w_build) ; rfl; (try dsimp only [splice, ev, cellsL, rep, List.cons_append, List.nil_append])) | ((with_reducible refine w_uneq (fun _ => ?_) (fun _ => ?_)) <;> first | (exfalso; omega) | skip) | ((with_reducible refine w_shr ?_ ?_) ; omega) | ((with_reducible apply w_storeV 0 H) ; rfl; rfl; rfl; omega; rfl; (clear H; intro u H hu; (try dsimp only [List.set_cons_zero, List.set_cons_succ, cellsL, List.toList_toArray, splice, ev, rep, List.cons_append, List.nil_append] at H))) | ((with_reducible apply w_retC 0 H) ; rfl; rfl; rfl))
   ·refine w_idxR 1 H rfl g1 fun bb oo H1 => ?_
    repeat' (first | (with_reducible refine w_gFf ?_))
    refine w_loadE0 0 H1 rfl rfl rfl ?_
    clear H1
    have c0 : x0 &&& 255 ≤ 255 := Nat.and_le_right
    repeat' (first | (with_reducible refine w_jn ?_) | (with_reducible refine w_cndT ?_) | (with_reducible refine w_cndF ?_) | (with_reducible refine w_gFf ?_) | (with_reducible refine w_pickF ?_) | (with_reducible refine w_blind ?_) | ((with_reducible apply w_build) ; rfl; (try dsimp only [splice, ev, cellsL, rep, List.cons_append, List.nil_append])) | ((with_reducible refine w_bar ?_ ?_) ; omega) | ((with_reducible refine w_allocM H ?_) ; (clear H; intro u H hu)) | ((with_reducible refine w_ugtr (fun _ => ?_) (fun _ => ?_)) <;> first | (exfalso; omega) | skip) | ((with_reducible refine w_to64 ?_ ?_) ; omega) | ((with_reducible refine w_shr ?_ ?_) ; omega) | ((with_reducible refine w_uand ?_ ?_ ?_) ; omega; omega) | ((with_reducible apply w_storeV 0 H) ; rfl; rfl; rfl; omega; rfl; (clear H; intro u H hu; (try dsimp only [List.set_cons_zero, List.set_cons_succ, cellsL, List.toList_toArray, splice, ev, rep, List.cons_append, List.nil_append] at H))) | ((with_reducible apply w_retC 0 H) ; rfl; rfl; rfl) | ((with_reducible apply w_at1 1 H) ; rfl; rfl; rfl; rfl))
    ·rw [show QGet [x0, x1, x2, x3, x4, x5, x6, x7] h = fun r h' => r = .tuple #[nd0.v none 0, .bool false] ∧ h' = h from by funext r h'; unfold QGet; rw [show getNode [x0, x1, x2, x3, x4, x5, x6, x7] = none from if_neg (by omega)]]
     exact w_clr H rfl ⟨rfl, rfl⟩
    ·refine w_slLH 2 H rfl (by omega) (by simp [Wl_len]) fun s H1 => ?_
     clear H
     have H := H1
     clear H1
     rw [Wl_drop, Wl_take] at H
     have hws : (List.drop 2 [x0, x1, x2, x3, x4, x5, x6, x7]).take (6 - 2) = [x2, x3, x4, x5] := rfl
     rw [hws] at H
     obtain ⟨aS, cs, rfl⟩ := (H.rd 0 rfl).1.formN (Wl_len [x2, x3, x4, x5])
     refine w_lenV ?_
     rename_i ua hua q8 bb oo q0 q1 ub hub
     refine w_jnG fun K hK => ?_
     replace H := H.nilS 87 2
     have tail : ∀ (y1 y2 y3 y4 : Value) (fl : Bool) (ac : Option Addr) (cc : Nat) (w : Hs), Sto h [] w [OR (.slice ac (decRs [x2, x3, x4, x5]).length cc) (decRs [x2, x3, x4, x5]), .rsl (.slice aS [x2, x3, x4, x5].length cs) 1 (Wl [x2, x3, x4, x5]), .blk ua.nx (.row 33 0 true fl [.int .i64 (.ofNat (x0 &&& 255)), .int .i64 (.ofNat (x0 / 2 ^ 8)), .int .i64 (.ofNat x1), .slice ac (decRs [x2, x3, x4, x5]).length cc]), .blk h.nx (.row 33 0 true true [.int .i64 (.ofNat 0), .int .i64 (.ofNat 0), .int .i64 (.ofNat 0), .slice none 0 0]), .rsl (.slice a [x0, x1, x2, x3, x4, x5, x6, x7].length c) 1 (Wl [x0, x1, x2, x3, x4, x5, x6, x7])] → WP (K y1 y2 y3 y4 w) (QGet [x0, x1, x2, x3, x4, x5, x6, x7] h) := by
      clear H
      intro y1 y2 y3 y4 fl ac cc w H
      rw [hK]
      have dl : (decRs [x2, x3, x4, x5]).length ≤ 4 := by
       unfold decRs
       rw [List.length_map]
       exact (List.takeWhile_sublist _).length_le
      repeat' (first | ((with_reducible apply w_loadsF 2 H) ; rfl; rfl; rfl))
      have rd := H.rdOR 0 rfl
      have cpd := cp (decN x0 x1 [x2, x3, x4, x5]) ac cc w (by show (decRs _).length < _; omega) rd
      by_cases hf : (decN x0 x1 [x2, x3, x4, x5]).fits
      ·refine w_call (cpd.1 hf) fun v2 u2 n2 => ?_
       replace n2 := n2.ones
       rw [← Wl_ones] at n2
       replace H := H.call n2
       refine w_callB (ce _ [x0, x1, x2, x3, x4, x5, x6, x7] _ _ _ (by rw [nodeW_len (show (decRs [x2, x3, x4, x5]).length ≤ 4 from dl)]; omega) (H.rd 0 rfl) (H.rd 5 rfl)) (fun q => ?_) (fun q => ?_)
       ·repeat' (first | (with_reducible refine w_jn ?_) | (with_reducible refine w_cndF ?_) | (with_reducible refine w_notT ?_) | ((with_reducible apply w_loadsF 3 H) ; rfl; rfl; rfl) | ((with_reducible apply w_storeV 4 H) ; rfl; rfl; rfl; omega; rfl; (clear H; intro u H hu; (try dsimp only [List.set_cons_zero, List.set_cons_succ, cellsL, List.toList_toArray, splice, ev, rep, List.cons_append, List.nil_append] at H))) | ((with_reducible apply w_retC 4 H) ; rfl; rfl; rfl))
        rw [show QGet [x0, x1, x2, x3, x4, x5, x6, x7] h = fun r h' => ∃ a c, r = .tuple #[(decN x0 x1 [x2, x3, x4, x5]).v a c, .bool true] ∧ New h h' (OR (.slice a (decN x0 x1 [x2, x3, x4, x5]).rs.length c) (decN x0 x1 [x2, x3, x4, x5]).rs) from by
         funext r h'; unfold QGet; rw [show getNode [x0, x1, x2, x3, x4, x5, x6, x7] = some (decN x0 x1 [x2, x3, x4, x5]) from if_pos ⟨q0, by omega, hf, q⟩]]
        exact w_clrC (fun v => .tuple #[.agg #[.int .i64 (.ofNat (x0 &&& 255)), .int .i64 (.ofNat (x0 / 2 ^ 8)), .int .i64 (.ofNat x1), v], .bool true]) 1 H rfl (fun _ _ _ => by simp [blkV, blkP, blkC]) (fun _ _ _ _ => rfl) fun v' h' n' => by
         obtain ⟨a', c', rfl⟩ := n'.2.1.form
         exact ⟨a', c', rfl, n'⟩
       ·repeat' (first | (with_reducible refine w_jn ?_) | (with_reducible refine w_cndT ?_) | (with_reducible refine w_notF ?_) | ((with_reducible apply w_build) ; rfl; (try dsimp only [splice, ev, cellsL, rep, List.cons_append, List.nil_append])) | ((with_reducible apply w_storeV 4 H) ; rfl; rfl; rfl; omega; rfl; (clear H; intro u H hu; (try dsimp only [List.set_cons_zero, List.set_cons_succ, cellsL, List.toList_toArray, splice, ev, rep, List.cons_append, List.nil_append] at H))) | ((with_reducible apply w_retC 4 H) ; rfl; rfl; rfl))
        rw [show QGet [x0, x1, x2, x3, x4, x5, x6, x7] h = fun r h' => r = .tuple #[nd0.v none 0, .bool false] ∧ h' = h from by funext r h'; unfold QGet; rw [show getNode [x0, x1, x2, x3, x4, x5, x6, x7] = none from if_neg fun z => q z.2.2.2]]
        exact w_clr H rfl ⟨rfl, rfl⟩
      ·refine w_callE (cpd.2 hf) ?_
       refine w_callB (ce [] [x0, x1, x2, x3, x4, x5, x6, x7] _ _ _ (by simp) (Rd.none _ _) (H.rd 4 rfl)) (fun q => by cases q) (fun q => ?_)
       repeat' (first | (with_reducible refine w_jn ?_) | (with_reducible refine w_cndT ?_) | (with_reducible refine w_notF ?_) | ((with_reducible apply w_build) ; rfl; (try dsimp only [splice, ev, cellsL, rep, List.cons_append, List.nil_append])) | ((with_reducible apply w_storeV 3 H) ; rfl; rfl; rfl; omega; rfl; (clear H; intro u H hu; (try dsimp only [List.set_cons_zero, List.set_cons_succ, cellsL, List.toList_toArray, splice, ev, rep, List.cons_append, List.nil_append] at H))) | ((with_reducible apply w_retC 3 H) ; rfl; rfl; rfl))
       rw [show QGet [x0, x1, x2, x3, x4, x5, x6, x7] h = fun r h' => r = .tuple #[nd0.v none 0, .bool false] ∧ h' = h from by funext r h'; unfold QGet; rw [show getNode [x0, x1, x2, x3, x4, x5, x6, x7] = none from if_neg fun z => hf z.2.2.1]]
       exact w_clr H rfl ⟨rfl, rfl⟩
     clear hK
     have wl : [x2, x3, x4, x5].length = 4 := rfl
     have wb : ∀ x ∈ [x2, x3, x4, x5], x < 18446744073709551616 := fun x hx => hl x (by simp at hx ⊢; omega)
     clear hws
     generalize [x2, x3, x4, x5] = ws at *
     obtain ⟨m0, hm0, H0⟩ : ∃ m0, m0 = _ ∧ Sto h [] u m0 := ⟨_, rfl, H⟩
     clear H
     refine lp_ind (Good := fun n (self : L4) => ∀ (i : Nat) (y1 y2 y3 : Value) (fl : Bool) (ac : Option Addr) (cc : Nat) (w : Hs), i + n = 4 → (∀ x ∈ ws.take i, x ≠ 0) → Sto h [] w ((m0.set 0 (.osl (.slice ac i cc) 87 2 true i (Rc ((ws.take i).map decR)))).set 2 (.blk ua.nx (.row 33 0 true fl [.int .i64 (.ofNat (x0 &&& 255)), .int .i64 (.ofNat (x0 / 2 ^ 8)), .int .i64 (.ofNat x1), .slice ac i cc]))) → WP (self (.int .i64 (.ofNat i)) y1 y2 y3 w) (QGet [x0, x1, x2, x3, x4, x5, x6, x7] h)) (fun n self ih i y1 y2 y3 fl ac cc w hi hq H1 => ?_) N 4 (by omega) 0 _ _ _ true none 0 _ (by omega) (by simp) (by rw [hm0]; rw [hm0] at H0; exact H0)
     have hm1 := hm0
     rw [hm0] at H1
     have H := H1
     clear H1 H0
     dsimp only [List.set_cons_zero, List.set_cons_succ] at H
     have tk : ∀ q : i < ws.length, ws.take (i + 1) = ws.take i ++ [ws[i]] := fun q => by rw [List.take_add_one, List.getElem?_eq_getElem q]; rfl
     repeat' (first | (with_reducible refine w_jn ?_) | (with_reducible refine w_cndT ?_) | (with_reducible refine w_cndF ?_) | ((with_reducible refine w_lss_NN (fun _ => ?_) (fun _ => ?_)) <;> first | (exfalso; omega) | skip))
     ·have ii : i < ws.length := by omega
      refine w_at1 1 H rfl (Wl_get ii) rfl rfl ?_
      have wi := wb ws[i] (List.getElem_mem ii)
      have a1 : ws[i] &&& 4294967295 ≤ 4294967295 := Nat.and_le_right
      repeat' (first | (with_reducible refine w_jn ?_) | (with_reducible refine w_cndT ?_) | (with_reducible refine w_cndF ?_) | (with_reducible refine w_fieldA ?_) | ((with_reducible apply w_build) ; rfl; (try dsimp only [splice, ev, cellsL, rep, List.cons_append, List.nil_append])) | ((with_reducible apply w_mkrow H) ; rfl; (clear H; intro u H hu; (try dsimp only [List.set_cons_zero, List.set_cons_succ, cellsL, List.toList_toArray, splice, ev, rep, List.cons_append, List.nil_append] at H))) | ((with_reducible refine w_ueql (fun _ => ?_) (fun _ => ?_)) <;> first | (exfalso; omega) | skip) | ((with_reducible refine w_to64 ?_ ?_) ; omega) | ((with_reducible refine w_shr ?_ ?_) ; omega) | ((with_reducible refine w_uand ?_ ?_ ?_) ; omega; omega) | ((with_reducible apply w_load 2 H) ; rfl; rfl; rfl))
      ·have et := decRs_at ii hq (by assumption)
       have el : (decRs ws).length = i := by rw [et, List.length_map, List.length_take]; omega
       refine tail _ _ _ _ fl ac cc _ ?_
       unfold OR
       rw [el, et]
       exact H
      ·refine w_appendB 1 0 H rfl rfl rfl rfl (by omega) (by omega) fun v3 u4 H4 hn4 => ?_
       clear H
       have H := H4.tail
       clear H4
       dsimp only [List.set_cons_zero, List.set_cons_succ] at H
       have rc : Rc ((ws.take (i + 1)).map decR) = Rc ((ws.take i).map decR) ++ [.int .i64 (.ofNat (ws[i] &&& 4294967295)), .int .i64 (.ofNat (ws[i] / 2 ^ 32))] := by
        rw [tk ii, List.map_append, List.map_singleton, Rc_snoc]; rfl
       obtain ⟨a3, c3, rfl⟩ := (show OwnSl u4 v3 87 2 _ _ _ from H.ok _ (List.mem_of_getElem? (i := 0) rfl)).form
       repeat' (first | (with_reducible refine w_fieldA ?_) | ((with_reducible refine w_add_NN ?_ ?_) ; omega) | ((with_reducible apply w_store1 2 H) ; rfl; (simp only [List.length_cons, List.length_nil]; omega); rfl; (clear H; intro u H hu; (try dsimp only [List.set_cons_zero, List.set_cons_succ, cellsL, List.toList_toArray, splice, ev, rep, List.cons_append, List.nil_append] at H))))
       refine ih (n - 1) (by omega) (i + 1) _ _ _ (andB fl (flat1 (.slice a3 (i + 1) c3))) a3 c3 _ (by omega) (fun x hx => ?_) ?_
       ·rw [tk ii, List.mem_append] at hx
        rcases hx with hx | hx
        ·exact hq x hx
        ·rw [List.mem_singleton.1 hx]; assumption
       ·rw [hm1, rc]
        exact H
     ·have ie : i = ws.length := by omega
      have et : decRs ws = (ws.take i).map decR := by rw [ie, List.take_length]; rw [ie, List.take_length] at hq; exact decRs_all hq
      have el : (decRs ws).length = i := by rw [et, List.length_map, List.length_take]; omega
      refine tail _ _ _ _ fl ac cc _ ?_
      unfold OR
      rw [el, et]
      exact H
   ·rw [show QGet [x0, x1, x2, x3, x4, x5, x6, x7] h = fun r h' => r = .tuple #[nd0.v none 0, .bool false] ∧ h' = h from by funext r h'; unfold QGet; rw [show getNode [x0, x1, x2, x3, x4, x5, x6, x7] = none from if_neg (by omega)]]
    exact w_clr H rfl ⟨rfl, rfl⟩
 ·repeat' (first | (with_reducible refine w_jn ?_) | (with_reducible refine w_cndT ?_) | (with_reducible refine w_gFt ?_) | (with_reducible refine w_pickT ?_) | (with_reducible refine w_unC ?_) | (with_reducible refine w_enK ?_) | (with_reducible refine w_lenV ?_) | ((with_reducible apply w_build) ; rfl; (try dsimp only [splice, ev, cellsL, rep, List.cons_append, List.nil_append])) | ((with_reducible refine w_alloc H ?_) ; (clear H; intro u H hu)) | ((with_reducible refine w_neq_NN (fun _ => ?_) (fun _ => ?_)) <;> first | (exfalso; omega) | skip) | ((with_reducible apply w_storeV 0 H) ; rfl; rfl; rfl; omega; rfl; (clear H; intro u H hu; (try dsimp only [List.set_cons_zero, List.set_cons_succ, cellsL, List.toList_toArray, splice, ev, rep, List.cons_append, List.nil_append] at H))) | ((with_reducible apply w_retC 0 H) ; rfl; rfl; rfl))
  rw [show QGet l h = fun r h' => r = .tuple #[nd0.v none 0, .bool false] ∧ h' = h from by funext r h'; unfold QGet; rw [getNode_len h8]]
  exact w_clr H rfl ⟨rfl, rfl⟩
theorem e2_runs (neg : Bool) (p q : Nat × Nat) : e2 neg (qA [.i, .i]) (.agg (rv p).toArray) (.agg (rv q).toArray) = some (.bool (if neg then !decide (p = q) else decide (p = q))) := by
 obtain ⟨a, b⟩ := p
 obtain ⟨c, d⟩ := q
 show boolO neg (match (some (Nat.beq a c) : Option Bool) with | some t => (match t with | true => (match (some (Nat.beq b d) : Option Bool) with | some t => (match t with | true => some true | false => some false) | none => none) | false => some false) | none => none) = _
 by_cases h1 : a = c
 ·subst h1
  rw [Nat.beq_refl]
  by_cases h2 : b = d
  ·subst h2
   rw [Nat.beq_refl]
   cases neg <;> simp [boolO, notB]
  ·rw [show Nat.beq b d = false from by rw [Bool.eq_false_iff]; exact fun e => h2 (Nat.eq_of_beq_eq_true e)]
   cases neg <;> simp [boolO, notB, h2]
 ·rw [show Nat.beq a c = false from by rw [Bool.eq_false_iff]; exact fun e => h1 (Nat.eq_of_beq_eq_true e)]
  cases neg <;> simp [boolO, notB, h1]
def CEqR (R : RnK) : Prop := ∀ (a b : List (Nat × Nat)) (v w : Value) (h : Hs), a.length < 100000 → Rd h v 2 (Rl a) → Rd h w 2 (Rl b) → R 72 [v, w] h = some (.val (.bool (decide (a = b))) h)
theorem eqR_ok {R : RnK} {N : Nat} {a b : List (Nat × Nat)} {v w : Value} {h : Hs} (hN : 100000 < N) (ha : a.length < 100000) (r1 : Rd h v 2 (Rl a)) (r2 : Rd h w 2 (Rl b)) : r72 R N [v, w] h = some (.val (.bool (decide (a = b))) h) := by
 refine WP.eqn ?_
 unfold r72
 have H := Sto.enter2 r1 r2
 have l1 := Rl_len a
 have l2 := Rl_len b
 repeat' (first | (with_reducible refine w_jn ?_) | (with_reducible refine w_cndT ?_) | (with_reducible refine w_cndF ?_) | (with_reducible refine w_unC ?_) | (with_reducible refine w_enK ?_) | ((with_reducible refine w_neq_NN (fun _ => ?_) (fun _ => ?_)) <;> first | (exfalso; omega) | skip) | ((with_reducible apply w_lenR 0 H) ; rfl) | ((with_reducible apply w_lenR 1 H) ; rfl))
 ·refine lp_ind (Good := fun n (self : L5) => ∀ (i : Nat) (x1 x2 x3 x4 : Value), i + n = a.length → (∀ j, j < i → a[j]? = b[j]?) → WP (self (.int .i64 (.ofNat i)) x1 x2 x3 x4 ⟨h.hp, h.nx, h.nx⟩) (fun v' h' => v' = .bool (decide (a = b)) ∧ h' = h)) (fun n self ih i x1 x2 x3 x4 hi hq => ?_) N a.length (by omega) 0 _ _ _ _ (by omega) (fun j hj => by omega)
  repeat' (first | (with_reducible refine w_jn ?_) | (with_reducible refine w_cndT ?_) | (with_reducible refine w_cndF ?_) | ((with_reducible refine w_lss_NN (fun _ => ?_) (fun _ => ?_)) <;> first | (exfalso; omega) | skip))
  ·have ia : i < a.length := by omega
   have ib : i < b.length := by omega
   refine w_at 0 H rfl (Rl_get ia) rfl rfl ?_
   refine w_at 1 H rfl (Rl_get ib) rfl rfl ?_
   refine w_ob (v := .bool (!decide (a[i] = b[i]))) (e2_runs true a[i] b[i]) ?_
   cases hd : decide (a[i] = b[i]) with
   | true =>
    show WP (cnd (.bool false) _ _) _
    repeat' (first | (with_reducible refine w_cndF ?_) | ((with_reducible refine w_add_NN ?_ ?_) ; omega))
    refine ih (n - 1) (by omega) (i + 1) _ _ _ _ (by omega) fun j hj => ?_
    by_cases e : j = i
    ·subst e; rw [List.getElem?_eq_getElem ia, List.getElem?_eq_getElem ib]; congr 1; exact of_decide_eq_true hd
    ·exact hq j (by omega)
   | false =>
    show WP (cnd (.bool true) _ _) _
    repeat' (first | (with_reducible refine w_cndT ?_))
    exact w_clrB H (by simp; intro e; subst e; exact of_decide_eq_false hd rfl)
  ·exact w_clrB H (by simp; exact List.ext_getElem? fun j => if hj : j < i then hq j hj else by rw [List.getElem?_eq_none (by omega), List.getElem?_eq_none (by omega)])
 ·exact w_clrB H (by simp; intro e; subst e; omega)
structure Nd.Mod (d : Nd) : Prop where
 ty : d.ty ≤ 100000
 ln : d.ln ≤ 1099511627776
 sz : d.sz ≤ 1099511627776
 rl : d.rs.length ≤ 1000
 rs : ∀ r ∈ d.rs, r.1 ≤ 4294967296 ∧ r.2 ≤ 4294967296
def sumR (l : List (Nat × Nat)) : Nat := (l.map fun r => r.2).sum
theorem sumR_snoc (l : List (Nat × Nat)) (r : Nat × Nat) : sumR (l ++ [r]) = sumR l + r.2 := by unfold sumR; rw [List.map_append, List.sum_append]; simp
theorem sumR_le {l : List (Nat × Nat)} (h : ∀ r ∈ l, r.1 ≤ 4294967296 ∧ r.2 ≤ 4294967296) : sumR l ≤ l.length * 4294967296 := by
 induction l with
 | nil => exact Nat.zero_le _
 | cons x l ih =>
  have h1 := (h x List.mem_cons_self).2
  have h2 := ih fun r hr => h r (List.mem_cons_of_mem _ hr)
  show x.2 + sumR l ≤ (l.length + 1) * 4294967296
  omega
def CBlocks (R : RnK) : Prop := ∀ (d : Nd) (a : Option Addr) (c : Nat) (h : Hs), d.Mod → Rd h (.slice a d.rs.length c) 2 (Rl d.rs) → R 17 [d.v a c] h = some (.val (.int .i64 (.ofNat (sumR d.rs))) h)
theorem blocks_ok {R : RnK} {N : Nat} {d : Nd} {a : Option Addr} {c : Nat} {h : Hs} (hN : 100000 < N) (dm : d.Mod) (r : Rd h (.slice a d.rs.length c) 2 (Rl d.rs)) : r17 R N [d.v a c] h = some (.val (.int .i64 (.ofNat (sumR d.rs))) h) := by
 refine WP.eqn ?_
 unfold r17 Nd.v
 have H := Sto.enter1 r
 have l1 := Rl_len d.rs
 have m1 := dm.rl
 repeat' (first | (with_reducible refine w_jn ?_) | (with_reducible refine w_unC ?_) | (with_reducible refine w_enK ?_) | (with_reducible refine w_fieldA ?_) | (with_reducible refine w_lenV ?_) | ((with_reducible refine w_boxA H ?_) ; (clear H; intro u H hu)) | ((with_reducible apply w_load 0 H) ; rfl; rfl; rfl))
 have H0 := H
 refine lp_ind (Good := fun n (self : L4) => ∀ (i : Nat) (y1 y3 : Value) (m : List Th) (w : Hs), i + n = d.rs.length → Sto h [] w (.rsl (.slice a d.rs.length c) 2 (Rl d.rs) :: m) → WP (self (.int .i64 (.ofNat i)) y1 (.int .i64 (.ofNat (sumR (d.rs.take i)))) y3 w) (fun v' h' => v' = .int .i64 (.ofNat (sumR d.rs)) ∧ h' = h)) (fun n self ih i y1 y3 m w hi H => ?_) N d.rs.length (by omega) 0 _ _ [] _ (by omega) H.tail
 clear H0
 have sm := sumR_le (l := d.rs.take i) fun r hr => dm.rs r (List.mem_of_mem_take hr)
 rw [List.length_take] at sm
 repeat' (first | (with_reducible refine w_jn ?_) | (with_reducible refine w_cndT ?_) | (with_reducible refine w_cndF ?_) | ((with_reducible refine w_lss_NN (fun _ => ?_) (fun _ => ?_)) <;> first | (exfalso; omega) | skip))
 ·have ii : i < d.rs.length := by omega
  refine w_at 0 H rfl (Rl_get ii) rfl rfl ?_
  have rb := dm.rs _ (List.getElem_mem ii)
  have tk : sumR (d.rs.take (i + 1)) = sumR (d.rs.take i) + d.rs[i].2 := by rw [List.take_add_one, List.getElem?_eq_getElem ii]; exact sumR_snoc _ _
  repeat' (first | (with_reducible refine w_fieldA ?_) | ((with_reducible refine w_alloc H ?_) ; (clear H; intro u H hu)) | ((with_reducible refine w_add_NN ?_ ?_) ; omega) | ((with_reducible apply w_load 0 H) ; rfl; rfl; rfl) | ((with_reducible apply w_storeV 0 H) ; rfl; rfl; rfl; omega; rfl; (clear H; intro u H hu; (try dsimp only [List.set_cons_zero, List.set_cons_succ, cellsL, List.toList_toArray, splice, ev, rep, List.cons_append, List.nil_append] at H))))
  rw [← tk]
  exact ih (n - 1) (by omega) (i + 1) _ _ m _ (by omega) H.tail
 ·rw [List.take_of_length_le (by omega)]
  exact w_clr H rfl ⟨rfl, rfl⟩
def Nd.needs (d : Nd) : Nat := if d.ty = 2 then d.sz else if d.ty = 1 ∨ d.ty = 3 then d.sz / 64 + min (d.sz % 64) 1 else 0
def CNeeds (R : RnK) : Prop := ∀ (d : Nd) (a : Option Addr) (c : Nat) (h : Hs), d.Mod → R 57 [d.v a c] h = some (.val (.int .i64 (.ofNat d.needs)) h)
theorem needs_ok {R : RnK} {N : Nat} {d : Nd} {a : Option Addr} {c : Nat} {h : Hs} (dm : d.Mod) : r57 R N [d.v a c] h = some (.val (.int .i64 (.ofNat d.needs)) h) := by
 refine WP.eqn ?_
 unfold r57 Nd.v Nd.needs
 have H := Sto.enter h
 have m1 := dm.sz
 repeat' (first | (with_reducible refine w_jn ?_) | (with_reducible refine w_cndT ?_) | (with_reducible refine w_cndF ?_) | (with_reducible refine w_unC ?_) | (with_reducible refine w_enK ?_) | (with_reducible refine w_fieldA ?_) | (with_reducible refine w_min_NN ?_) | ((with_reducible refine w_boxA H ?_) ; (clear H; intro u H hu)) | ((with_reducible refine w_lss_NN (fun _ => ?_) (fun _ => ?_)) <;> first | (exfalso; omega) | skip) | ((with_reducible refine w_eql_NN (fun _ => ?_) (fun _ => ?_)) <;> first | (exfalso; omega) | skip) | ((with_reducible refine w_add_NN ?_ ?_) ; omega) | ((with_reducible refine w_rem_NN ?_ ?_) ; omega) | ((with_reducible refine w_quo_NN ?_ ?_ ?_) ; omega; omega) | ((with_reducible apply w_load 0 H) ; rfl; rfl; rfl))
 all_goals (refine w_clr H rfl ⟨?_, rfl⟩; congr 2; clear H; (repeat' split) <;> omega)
def Nd.sizedP (d : Nd) (g : Geo) : Prop := if d.ty = 1 then d.sz ≤ 4096 else if d.ty = 2 then d.sz ≤ min g.b 4096 else 1 ≤ d.sz ∧ d.sz ≤ 400
instance (d : Nd) (g : Geo) : Decidable (d.sizedP g) := inferInstanceAs (Decidable (if d.ty = 1 then _ else if d.ty = 2 then _ else _ ∧ _))
def CSized (R : RnK) : Prop := ∀ (g : Geo) (d : Nd) (a : Option Addr) (c : Nat) (h : Hs), d.Mod → R 55 [g.v, d.v a c] h = some (.val (.bool (decide (d.sizedP g))) h)
theorem sized_ok {R : RnK} {N : Nat} (ci : CNin R) {g : Geo} {d : Nd} {a : Option Addr} {c : Nat} {h : Hs} (dm : d.Mod) : r55 R N [g.v, d.v a c] h = some (.val (.bool (decide (d.sizedP g))) h) := by
 refine WP.eqn ?_
 unfold r55 Nd.v Geo.v
 have H := Sto.enter h
 have m1 := dm.sz
 repeat' (first | (refine w_callE (ci.nat _ _ _ _) ?_) | (with_reducible refine w_jn ?_) | (with_reducible refine w_cndT ?_) | (with_reducible refine w_cndF ?_) | (with_reducible refine w_unC ?_) | (with_reducible refine w_enK ?_) | (with_reducible refine w_fieldA ?_) | (with_reducible refine w_min_NN ?_) | ((with_reducible refine w_boxA H ?_) ; (clear H; intro u H hu)) | ((with_reducible refine w_eql_NN (fun _ => ?_) (fun _ => ?_)) <;> first | (exfalso; omega) | skip) | ((with_reducible apply w_load 0 H) ; rfl; rfl; rfl) | ((with_reducible apply w_load 1 H) ; rfl; rfl; rfl))
 all_goals (refine w_clr H rfl ⟨congrArg _ (decide_eq_decide.2 ?_), rfl⟩; clear H; unfold Nd.sizedP; (repeat' split) <;> omega)
def inData (g : Geo) (r : Nat × Nat) : Prop := 1 ≤ r.2 ∧ g.dataAt ≤ r.1 ∧ r.1 + r.2 ≤ g.dataAt + g.dataN
def clash (r q : Nat × Nat) : Prop := r.1 < q.1 + q.2 ∧ q.1 < r.1 + r.2
instance (g : Geo) (r : Nat × Nat) : Decidable (inData g r) := inferInstanceAs (Decidable (_ ∧ _ ∧ _))
instance (r q : Nat × Nat) : Decidable (clash r q) := inferInstanceAs (Decidable (_ ∧ _))
def placedTo (g : Geo) (l : List (Nat × Nat)) (k : Nat) : Prop := ∀ i, i < k → ∀ r, l[i]? = some r → inData g r ∧ ∀ j, j < i → ∀ q, l[j]? = some q → ¬ clash r q
def Nd.placedP (d : Nd) (g : Geo) : Prop := d.ty = 2 ∧ d.rs = [(g.lostAt, g.n)] ∨ placedTo g d.rs d.rs.length
theorem placedTo_bad {g : Geo} {l : List (Nat × Nat)} {i : Nat} (hi : i < l.length) (h : ¬ inData g l[i]) : ¬ placedTo g l l.length := fun p => h (p i hi _ (List.getElem?_eq_getElem hi)).1
theorem placedTo_clash {g : Geo} {l : List (Nat × Nat)} {i j : Nat} (hi : i < l.length) (hj : j < i) (h : clash l[i] l[j]) : ¬ placedTo g l l.length := fun p => (p i hi _ (List.getElem?_eq_getElem hi)).2 j hj _ (List.getElem?_eq_getElem _) h
theorem placedTo_succ {g : Geo} {l : List (Nat × Nat)} {i : Nat} (hi : i < l.length) (p : placedTo g l i) (h : inData g l[i]) (q : ∀ j, (hj : j < i) → ¬ clash l[i] l[j]) : placedTo g l (i + 1) := fun k hk r hr => by
 by_cases e : k = i
 ·subst e
  rw [List.getElem?_eq_getElem hi] at hr
  injection hr with hr
  subst hr
  exact ⟨h, fun j hj x hx => by rw [List.getElem?_eq_getElem (by omega)] at hx; injection hx with hx; subst hx; exact q j hj⟩
 ·exact p k (by omega) r hr
def CPlaced (R : RnK) : Prop := ∀ (g : Geo) (d : Nd) (a : Option Addr) (c : Nat) (h : Hs), g.Ok → d.Mod → Rd h (.slice a d.rs.length c) 2 (Rl d.rs) → WP (R 56 [g.v, d.v a c] h) fun v h' => h' = h ∧ ∃ b, v = .bool b ∧ (b = true ↔ d.placedP g)
theorem placed_ok {R : RnK} {N : Nat} (cl : CLost R) (ce : CEqR R) (cd : CDataF R) {g : Geo} {d : Nd} {a : Option Addr} {c : Nat} {h : Hs} (hN : 100000 < N) (x : g.Ok) (dm : d.Mod) (r : Rd h (.slice a d.rs.length c) 2 (Rl d.rs)) :
 WP (r56 R N [g.v, d.v a c] h) fun v h' => h' = h ∧ ∃ b, v = .bool b ∧ (b = true ↔ d.placedP g) := by
 unfold r56 Nd.v Geo.v
 have clg := cl g
 have cdg := cd g
 unfold Geo.v at clg cdg
 have H := Sto.enter1 r
 have l1 := Rl_len d.rs
 have m1 := dm.rl
 have h1 := x.1.b2
 have h2 := x.1.n2
 have h3 := x.1.num
 have h4 := x.2
 have h5 : g.dataN = g.b - 1 - g.dataAt := rfl
 have h6 : g.lostAt = g.bitsAt + g.bitsN + g.n := rfl
 refine w_unC ?_
 refine w_unC ?_
 refine w_enK ?_
 refine w_boxA H ?_
 clear H; intro u1 H hu1
 refine w_boxA H ?_
 clear H; intro u2 H hu2
 repeat' (first | (refine w_callE (clg _ x) ?_) | (refine w_callE (cdg _ x) ?_) | (with_reducible refine w_jn ?_) | (with_reducible refine w_cndF ?_) | (with_reducible refine w_gTt ?_) | (with_reducible refine w_gTf ?_) | (with_reducible refine w_pickF ?_) | (with_reducible refine w_fieldA ?_) | (with_reducible refine w_lenV ?_) | ((with_reducible apply w_extr) ; rfl) | ((with_reducible apply w_build) ; rfl; (try dsimp only [splice, ev, cellsL, rep, List.cons_append, List.nil_append])) | ((with_reducible apply w_mkrow H) ; rfl; (clear H; intro u H hu; (try dsimp only [List.set_cons_zero, List.set_cons_succ, cellsL, List.toList_toArray, splice, ev, rep, List.cons_append, List.nil_append] at H))) | ((with_reducible refine w_eql_NN (fun _ => ?_) (fun _ => ?_)) <;> first | (exfalso; omega) | skip) | ((with_reducible apply w_load 0 H) ; rfl; rfl; rfl) | ((with_reducible apply w_loadsF 1 H) ; rfl; rfl; rfl))
 refine w_callB (ce d.rs [(g.lostAt, g.n)] _ _ _ (by omega) (H.rd 3 rfl) (H.rdU (Ls := Rl [(g.lostAt, g.n)]) (n := 1) (c := 1) 0 rfl rfl (Rl_two _) rfl (by omega))) (fun q => ?_) (fun q => ?_)
 ·repeat' (first | (with_reducible refine w_jn ?_) | (with_reducible refine w_cndT ?_) | (with_reducible refine w_pickT ?_))
  exact w_clr H rfl ⟨rfl, _, rfl, ⟨fun _ => .inl ⟨by omega, q⟩, fun _ => rfl⟩⟩
 replace H := H.tail
 repeat' (first | (refine w_callE (cdg _ x) ?_) | (with_reducible refine w_jn ?_) | (with_reducible refine w_cndF ?_) | (with_reducible refine w_pickT ?_) | (with_reducible refine w_fieldA ?_) | (with_reducible refine w_lenV ?_) | ((with_reducible apply w_extr) ; rfl) | ((with_reducible apply w_load 0 H) ; rfl; rfl; rfl) | ((with_reducible apply w_loadsF 1 H) ; rfl; rfl; rfl))
 all_goals
  have np : ¬ (d.ty = 2 ∧ d.rs = [(g.lostAt, g.n)]) := by first | exact fun z => q z.2 | exact fun z => by omega
  obtain ⟨m0, hm0, H0⟩ : ∃ m0, m0 = _ ∧ Sto h [] _ m0 := ⟨_, rfl, H⟩
  refine lp_ind (Good := fun n (self : L12) => ∀ (i : Nat) (y1 y2 y3 y4 y5 y6 y7 y8 y9 y10 y11 : Value) (w : Hs), i + n = d.rs.length → placedTo g d.rs i → Sto h [] w m0 → WP (self (.int .i64 (.ofNat i)) y1 y2 y3 y4 y5 y6 y7 y8 y9 y10 y11 w) (fun v h' => h' = h ∧ ∃ b, v = .bool b ∧ (b = true ↔ d.placedP g))) (fun n self ih i y1 y2 y3 y4 y5 y6 y7 y8 y9 y10 y11 w hi hq H1 => ?_) N d.rs.length (by omega) 0 _ _ _ _ _ _ _ _ _ _ _ _ (by omega) (fun i hi => by omega) (by rw [hm0]; exact H)
  clear H H0
  have hm1 := hm0
  rw [hm0] at H1
  have H := H1
  clear H1
  repeat' (first | (with_reducible refine w_jn ?_) | (with_reducible refine w_cndT ?_) | (with_reducible refine w_cndF ?_) | ((with_reducible refine w_lss_NN (fun _ => ?_) (fun _ => ?_)) <;> first | (exfalso; omega) | skip))
  ·have ii : i < d.rs.length := by omega
   refine w_at 2 H rfl (Rl_get ii) rfl rfl ?_
   have rb := dm.rs _ (List.getElem_mem ii)
   have bad : ¬ inData g d.rs[i] → ¬ d.placedP g := fun z p => p.elim np (placedTo_bad ii z)
   have no : ∀ z : ¬ d.placedP g, (false = true ↔ d.placedP g) := fun z => ⟨fun y => (by cases y), fun y => absurd y z⟩
   repeat' (first | (with_reducible refine w_jn ?_) | (with_reducible refine w_cndT ?_) | (with_reducible refine w_cndF ?_) | (with_reducible refine w_gFt ?_) | (with_reducible refine w_gFf ?_) | (with_reducible refine w_pickT ?_) | (with_reducible refine w_pickF ?_) | (with_reducible refine w_fieldA ?_) | ((with_reducible refine w_alloc H ?_) ; (clear H; intro u H hu)) | ((with_reducible refine w_lss_NN (fun _ => ?_) (fun _ => ?_)) <;> first | (exfalso; omega) | skip) | ((with_reducible refine w_gtr_NN (fun _ => ?_) (fun _ => ?_)) <;> first | (exfalso; omega) | skip) | ((with_reducible refine w_geq_NN (fun _ => ?_) (fun _ => ?_)) <;> first | (exfalso; omega) | skip) | ((with_reducible refine w_sub_NN ?_ ?_ ?_) ; omega; omega) | ((with_reducible apply w_load 0 H) ; rfl; rfl; rfl) | ((with_reducible apply w_storeV 0 H) ; rfl; rfl; rfl; omega; rfl; (clear H; intro u H hu; (try dsimp only [List.set_cons_zero, List.set_cons_succ, cellsL, List.toList_toArray, splice, ev, rep, List.cons_append, List.nil_append] at H))) | ((with_reducible apply w_load 1 H) ; rfl; rfl; rfl))
   ·exact w_clr H rfl ⟨rfl, _, rfl, no (bad fun q => by have := q.1; omega)⟩
   ·exact w_clr H rfl ⟨rfl, _, rfl, no (bad fun q => by have := q.2.1; omega)⟩
   ·exact w_clr H rfl ⟨rfl, _, rfl, no (bad fun q => by have := q.1; have := q.2.2; omega)⟩
   ·exact w_clr H rfl ⟨rfl, _, rfl, no (bad fun q => by have := q.2.2; omega)⟩
   ·have good : inData g d.rs[i] := ⟨by omega, by omega, by omega⟩
    refine w_slH 3 H rfl (by omega) fun s H1 => ?_
    clear H
    have H := H1
    clear H1
    have rt : (Rl d.rs).take i = Rl (d.rs.take i) := by unfold Rl; rw [List.map_take]
    have l3 : (d.rs.take i).length = i := by rw [List.length_take]; omega
    rw [rt] at H
    obtain ⟨aS, cs, rfl⟩ := (H.rd 0 rfl).1.formN (Rl_len (d.rs.take i))
    have l2 := Rl_len (d.rs.take i)
    repeat' (first | (with_reducible refine w_jn ?_) | (with_reducible refine w_lenV ?_))
    obtain ⟨k0, hk0, K0⟩ : ∃ k0, k0 = _ ∧ Sto h [] _ k0 := ⟨_, rfl, H⟩
    refine lp_ind (Good := fun n2 (self2 : L5) => ∀ (j : Nat) (z1 z2 z3 z4 : Value) (w2 : Hs), j + n2 = i → (∀ k, (hk : k < j) → (hj : j ≤ i) → ¬ clash d.rs[i] d.rs[k]) → Sto h [] w2 k0 → WP (self2 (.int .i64 (.ofNat j)) z1 z2 z3 z4 w2) (fun v h' => h' = h ∧ ∃ b, v = .bool b ∧ (b = true ↔ d.placedP g))) (fun n2 self2 ih2 j z1 z2 z3 z4 w2 hj hq2 H2 => ?_) N i (by omega) 0 _ _ _ _ _ (by omega) (fun k hk => by omega) (by rw [hk0]; exact H)
    clear H K0
    have hk1 := hk0
    rw [hk0] at H2
    have H := H2
    clear H2
    repeat' (first | (with_reducible refine w_jn ?_) | (with_reducible refine w_cndT ?_) | (with_reducible refine w_cndF ?_) | ((with_reducible refine w_lss_NN (fun _ => ?_) (fun _ => ?_)) <;> first | (exfalso; omega) | skip) | ((with_reducible refine w_add_NN ?_ ?_) ; omega))
    ·have jj : j < (d.rs.take i).length := by omega
     have ge : (d.rs.take i)[j] = d.rs[j] := List.getElem_take
     refine w_at 0 H rfl (Rl_get jj) rfl rfl ?_
     rw [ge]
     have rb2 := dm.rs d.rs[j] (List.getElem_mem _)
     repeat' (first | (with_reducible refine w_jn ?_) | (with_reducible refine w_cndT ?_) | (with_reducible refine w_cndF ?_) | (with_reducible refine w_gTt ?_) | (with_reducible refine w_gTf ?_) | (with_reducible refine w_pickT ?_) | (with_reducible refine w_pickF ?_) | (with_reducible refine w_fieldA ?_) | ((with_reducible refine w_alloc H ?_) ; (clear H; intro u H hu)) | ((with_reducible refine w_lss_NN (fun _ => ?_) (fun _ => ?_)) <;> first | (exfalso; omega) | skip) | ((with_reducible refine w_add_NN ?_ ?_) ; omega) | ((with_reducible apply w_load 0 H) ; rfl; rfl; rfl) | ((with_reducible apply w_storeV 0 H) ; rfl; rfl; rfl; omega; rfl; (clear H; intro u H hu; (try dsimp only [List.set_cons_zero, List.set_cons_succ, cellsL, List.toList_toArray, splice, ev, rep, List.cons_append, List.nil_append] at H))) | ((with_reducible apply w_load 2 H) ; rfl; rfl; rfl))
     ·exact w_clr H rfl ⟨rfl, _, rfl, no fun p => p.elim np (placedTo_clash ii (j := j) (by omega) ⟨by omega, by omega⟩)⟩
     ·refine ih2 (n2 - 1) (by omega) (j + 1) _ _ _ _ _ (by omega) (fun k hk _ => ?_) (by rw [hk1]; exact H.tail)
      by_cases e : k = j
      ·subst e; exact fun z => by have := z.1; have := z.2; omega
      ·exact hq2 k (by omega) (by omega)
     ·refine ih2 (n2 - 1) (by omega) (j + 1) _ _ _ _ _ (by omega) (fun k hk _ => ?_) (by rw [hk1]; exact H.tail)
      by_cases e : k = j
      ·subst e; exact fun z => by have := z.1; have := z.2; omega
      ·exact hq2 k (by omega) (by omega)
    ·refine ih (n - 1) (by omega) (i + 1) _ _ _ _ _ _ _ _ _ _ _ _ (by omega) (placedTo_succ ii hq good fun k hk => hq2 k (by omega) (by omega)) (by rw [hm1]; exact H.tail.tail)
  ·refine w_clr H rfl ⟨rfl, _, rfl, ⟨fun _ => .inr ?_, fun _ => rfl⟩⟩
   rw [show i = d.rs.length by omega] at hq
   exact hq
def Nd.good (d : Nd) (g : Geo) : Prop := if d.ty = 0 then d.free else 1 ≤ d.ty ∧ d.ty ≤ 3 ∧ 1 ≤ d.ln ∧ d.ln ≤ 200 ∧ d.sizedP g ∧ d.rs.length ≤ 4 ∧ d.placedP g ∧ sumR d.rs = d.needs
def CNodeGood (R : RnK) : Prop := ∀ (g : Geo) (d : Nd) (a : Option Addr) (c : Nat) (h : Hs), g.Ok → d.Mod → Rd h (.slice a d.rs.length c) 2 (Rl d.rs) → WP (R 23 [g.v, d.v a c] h) fun v h' => h' = h ∧ ∃ b, v = .bool b ∧ (b = true ↔ d.good g)
theorem nodeGood_ok {R : RnK} {N : Nat} (cg : CGood R) (ci : CNin R) (cf : CFree R) (cz : CSized R) (cp : CPlaced R) (cb : CBlocks R) (cn : CNeeds R) {g : Geo} {d : Nd} {a : Option Addr} {c : Nat} {h : Hs} (hN : 100000 < N) (x : g.Ok) (dm : d.Mod) (r : Rd h (.slice a d.rs.length c) 2 (Rl d.rs)) :
 WP (r23 R N [g.v, d.v a c] h) fun v h' => h' = h ∧ ∃ b, v = .bool b ∧ (b = true ↔ d.good g) := by
 have cgg := cg g
 have cff := fun u => cf d a c u (by have := dm.rl; omega)
 have czg := fun u => cz g d a c u dm
 have cpg := fun u => cp g d a c u x dm
 have cbg := fun u => cb d a c u dm
 have cng := fun u => cn d a c u dm
 unfold r23 Nd.v Geo.v
 unfold Nd.v at cff czg cpg cbg cng
 unfold Geo.v at cgg czg cpg
 have H := Sto.enter1 r
 have l1 := Rl_len d.rs
 have m1 := dm.rl
 have g0 : d.ty = 0 → (d.good g ↔ d.free) := fun z => by unfold Nd.good; rw [if_pos z]
 have g1 : ¬ d.ty = 0 → (d.good g ↔ 1 ≤ d.ty ∧ d.ty ≤ 3 ∧ 1 ≤ d.ln ∧ d.ln ≤ 200 ∧ d.sizedP g ∧ d.rs.length ≤ 4 ∧ d.placedP g ∧ sumR d.rs = d.needs) := fun z => by unfold Nd.good; rw [if_neg z]
 repeat' (first | ((refine w_callB (cgg _) (fun _ => ?_) (fun _ => ?_)) <;> first | (exfalso; omega) | skip) | ((refine w_callB (ci.nat _ _ _ _) (fun _ => ?_) (fun _ => ?_)) <;> first | (exfalso; omega) | skip) | ((refine w_callB (czg _) (fun _ => ?_) (fun _ => ?_)) <;> first | (exfalso; omega) | skip) | (with_reducible refine w_jn ?_) | (with_reducible refine w_cndT ?_) | (with_reducible refine w_cndF ?_) | (with_reducible refine w_gTt ?_) | (with_reducible refine w_gTf ?_) | (with_reducible refine w_gFt ?_) | (with_reducible refine w_gFf ?_) | (with_reducible refine w_pickT ?_) | (with_reducible refine w_pickF ?_) | (with_reducible refine w_notT ?_) | (with_reducible refine w_notF ?_) | (with_reducible refine w_unC ?_) | (with_reducible refine w_enK ?_) | (with_reducible refine w_fieldA ?_) | (with_reducible refine w_lenV ?_) | (with_reducible refine w_blind ?_) | ((with_reducible refine w_boxA H ?_) ; (clear H; intro u H hu)) | ((with_reducible refine w_leq_NN (fun _ => ?_) (fun _ => ?_)) <;> first | (exfalso; omega) | skip) | ((with_reducible refine w_eql_NN (fun _ => ?_) (fun _ => ?_)) <;> first | (exfalso; omega) | skip) | ((with_reducible apply w_load 0 H) ; rfl; rfl; rfl) | ((with_reducible apply w_loadsF 0 H) ; rfl; rfl; rfl) | ((with_reducible apply w_loadsF 1 H) ; rfl; rfl; rfl))
 ·refine w_callE (cff _) ?_
  exact w_clr H rfl ⟨rfl, _, rfl, by rw [g0 (by assumption)]; exact decide_eq_true_iff⟩
 ·refine w_call (cpg _ (H.rd 2 rfl)) fun v w hv => ?_
  obtain ⟨rfl, b, rfl, hb⟩ := hv
  refine w_bar (Nat.le_refl _) ?_
  cases b
  ·repeat' (first | (with_reducible refine w_gTf ?_) | (with_reducible refine w_pickT ?_) | (with_reducible refine w_pickF ?_) | (with_reducible refine w_blind ?_))
   exact w_clr H rfl ⟨rfl, _, rfl, ⟨fun z => (by cases z), fun z => hb.2 ((g1 (by assumption)).1 z).2.2.2.2.2.2.1⟩⟩
  ·have hp := hb.1 rfl
   repeat' (first | (with_reducible refine w_gTt ?_) | (with_reducible refine w_pickT ?_) | (with_reducible refine w_blind ?_) | ((with_reducible apply w_loadsF 0 H) ; rfl; rfl; rfl))
   refine w_callE (cbg ⟨w.hp, w.nx, w.nx⟩ (Rd.lo (H.rd 2 rfl) _)) ?_
   have sr := sumR_le dm.rs
   refine w_light0 ?_
   repeat' (first | (refine w_callE (cng _) ?_) | (with_reducible refine w_gTt ?_) | (with_reducible refine w_pickT ?_) | (with_reducible refine w_blind ?_) | ((with_reducible refine w_bar ?_ ?_) ; omega) | ((with_reducible refine w_eql_NN (fun _ => ?_) (fun _ => ?_)) <;> first | (exfalso; omega) | skip) | ((with_reducible apply w_loadsD 0 H) ; rfl; rfl; (intro _; simp only [HidOk, and_true]; omega)))
   have nd : d.needs ≤ 1099511627776 := by have := dm.sz; unfold Nd.needs; (repeat' split) <;> omega
   skip
   ·exact w_clr H rfl ⟨rfl, _, rfl, ⟨fun _ => (g1 (by assumption)).2 ⟨by omega, by omega, by omega, by omega, by assumption, by omega, hp, by omega⟩, fun _ => rfl⟩⟩
   ·exact w_clr H rfl ⟨rfl, _, rfl, ⟨fun z => (by cases z), fun z => by have := ((g1 (by assumption)).1 z).2.2.2.2.2.2.2; omega⟩⟩
 ·exact w_clr H rfl ⟨rfl, _, rfl, ⟨fun z => (by cases z), fun z => by have := ((g1 (by assumption)).1 z); omega⟩⟩
 ·exact w_clr H rfl ⟨rfl, _, rfl, ⟨fun z => (by cases z), fun z => absurd ((g1 (by assumption)).1 z).2.2.2.2.1 (by assumption)⟩⟩
 ·exact w_clr H rfl ⟨rfl, _, rfl, ⟨fun z => (by cases z), fun z => by have := ((g1 (by assumption)).1 z); omega⟩⟩
 ·exact w_clr H rfl ⟨rfl, _, rfl, ⟨fun z => (by cases z), fun z => by have := ((g1 (by assumption)).1 z); omega⟩⟩
 ·exact absurd x (by assumption)
theorem getNode_fits {l : List Nat} {d : Nd} (h : getNode l = some d) : d.fits ∧ nodeW d = l := by
 unfold getNode at h
 split at h
 ·split at h
  ·rename_i q
   injection h with h
   subst h
   exact ⟨q.2.2.1, q.2.2.2⟩
  ·cases h
 ·cases h
theorem fits_mod {d : Nd} (h : d.fits) : d.Mod := by
 unfold Nd.fits at h
 split at h
 ·obtain ⟨a, b, c, e⟩ := h
  exact ⟨by omega, by omega, by omega, by rw [e]; simp, by rw [e]; intro r hr; cases hr⟩
 ·obtain ⟨a, b, c, e, f⟩ := h
  exact ⟨by omega, by omega, by omega, by omega, fun r hr => by have := runFits_of (List.all_eq_true.1 f r hr); omega⟩
def INode (g : Geo) (l : List Nat) (i : Nat) (d : Nd) : Prop := 1 ≤ i ∧ i ≤ g.n ∧ getNode (blockAt l (g.nodeAt i)) = some d ∧ d.good g
def CImgNode (R : RnK) : Prop := ∀ (g : Geo) (l : List Nat) (s : Value) (i : Nat) (h : Hs), g.Ok → l.length = 8 * g.b → Small l → Rd h s 1 (Wl l) → i ≤ 100000 →
 (∀ d, INode g l i d → WP (R 12 [imgV g s, .int .i64 (.ofNat i)] h) fun r h' => ∃ a c, r = .tuple #[d.v a c, .bool true] ∧ New h h' (OR (.slice a d.rs.length c) d.rs)) ∧
 ((∀ d, ¬ INode g l i d) → R 12 [imgV g s, .int .i64 (.ofNat i)] h = some (.val (.tuple #[nd0.v none 0, .bool false]) h))
theorem nodeAt_in {g : Geo} {i : Nat} (x : g.Ok) : 8 * g.nodeAt i + 8 ≤ 8 * g.b := by
 have h3 := x.1.num
 have h4 := x.2
 unfold Geo.nodeAt
 split <;> omega
theorem Small.block {l : List Nat} (h : Small l) (i : Nat) : Small (blockAt l i) := fun x hx => h x (List.mem_of_mem_drop (List.mem_of_mem_take hx))
theorem imgNode_ok {R : RnK} {N : Nat} (cn : CNode R) (cb : CBlock R) (cg : CNodeGet R) (co : CNodeGood R) {g : Geo} {l : List Nat} {s : Value} {i : Nat} {h : Hs} {d : Nd} (x : g.Ok) (hl : l.length = 8 * g.b) (sm : Small l) (r : Rd h s 1 (Wl l)) (hi : i ≤ 100000) (hd : INode g l i d) :
 WP (r12 R N [imgV g s, .int .i64 (.ofNat i)] h) fun r h' => ∃ a c, r = .tuple #[d.v a c, .bool true] ∧ New h h' (OR (.slice a d.rs.length c) d.rs) := by
 have cng := cn g i
 have cbg := cb g l s (g.nodeAt i)
 have cog := co g
 unfold r12 imgV
 unfold imgV at cbg
 unfold Geo.v at cng cog
 have H := Sto.enter1 r
 have h1 := x.1.b2
 have h2 := x.1.num
 have h3 := x.2
 have h4 := nodeAt_in (i := i) x
 obtain ⟨i1, i2, hd, hg⟩ := hd
 have n0 : g.nodeAt i = g.bitsAt + g.bitsN + i - 1 := if_pos ⟨i1, i2⟩
 repeat' (first | (refine w_callE (cng _ x hi) ?_) | (with_reducible refine w_jn ?_) | (with_reducible refine w_cndF ?_) | (with_reducible refine w_unC ?_) | (with_reducible refine w_enK ?_) | (with_reducible refine w_fieldA ?_) | ((with_reducible refine w_boxA H ?_) ; (clear H; intro u H hu)) | ((with_reducible refine w_alloc H ?_) ; (clear H; intro u H hu)) | ((with_reducible refine w_eql_NN (fun _ => ?_) (fun _ => ?_)) <;> first | (exfalso; omega) | skip) | ((with_reducible apply w_loadsF 1 H) ; rfl; rfl; rfl) | ((with_reducible apply w_loads 1 H) ; rfl; rfl; rfl; rfl; (try dsimp only [List.drop_zero, List.drop_succ_cons, List.take_succ_cons, List.take_zero])))
 refine w_call (cbg _ (by omega) (H.rd 2 rfl) (by omega)) fun v u1 n1 => ?_
 have bl := blockAt_len (l := l) (i := g.nodeAt i) (by omega)
 replace n1 := n1.ones
 rw [← Wl_ones] at n1
 replace H := H.call n1
 refine w_call (cg (blockAt l (g.nodeAt i)) v _ (sm.block _) (by omega) (H.rd 0 rfl)) fun v2 u2 n2 => ?_
 unfold QGet at n2
 rw [hd] at n2
 obtain ⟨a, c, rfl, n2⟩ := n2
 replace H := H.call n2
 have dm := fits_mod (getNode_fits hd).1
 unfold Nd.v
 repeat' (first | (with_reducible refine w_gFf ?_) | (with_reducible refine w_notT ?_) | (with_reducible refine w_fieldA ?_) | ((with_reducible apply w_extr) ; rfl) | ((with_reducible refine w_alloc H ?_) ; (clear H; intro u H hu)) | ((with_reducible apply w_storeV 0 H) ; rfl; rfl; rfl; omega; rfl; (clear H; intro u H hu; (try dsimp only [List.set_cons_zero, List.set_cons_succ, cellsL, List.toList_toArray, splice, ev, rep, List.cons_append, List.nil_append] at H))) | ((with_reducible apply w_loadsF 0 H) ; rfl; rfl; rfl) | ((with_reducible apply w_loads 4 H) ; rfl; rfl; rfl; rfl; (try dsimp only [List.drop_zero, List.drop_succ_cons, List.take_succ_cons, List.take_zero])))
 refine w_call (cog d a c _ x dm (H.rdOR 1 rfl)) fun v3 u3 hv => ?_
 obtain ⟨rfl, b, rfl, hb⟩ := hv
 obtain rfl := hb.2 hg
 repeat' (first | (with_reducible refine w_jn ?_) | (with_reducible refine w_cndF ?_) | (with_reducible refine w_gFf ?_) | (with_reducible refine w_pickF ?_) | (with_reducible refine w_notT ?_) | ((with_reducible apply w_loadsF 0 H) ; rfl; rfl; rfl) | ((with_reducible apply w_storeV 3 H) ; rfl; rfl; rfl; omega; rfl; (clear H; intro u H hu; (try dsimp only [List.set_cons_zero, List.set_cons_succ, cellsL, List.toList_toArray, splice, ev, rep, List.cons_append, List.nil_append] at H))) | ((with_reducible apply w_retC 3 H) ; rfl; rfl; rfl))
 exact w_clrC (fun v => .tuple #[.agg #[.int .i64 (.ofNat d.ty), .int .i64 (.ofNat d.ln), .int .i64 (.ofNat d.sz), v], .bool true]) 1 H rfl (fun _ _ _ => by simp [blkV, blkP, blkC]) (fun _ _ _ _ => rfl) fun v' h' n' => by
  obtain ⟨a', c', rfl⟩ := n'.2.1.form
  exact ⟨a', c', rfl, n'⟩
theorem imgNode_no {R : RnK} {N : Nat} (cn : CNode R) (cb : CBlock R) (cg : CNodeGet R) (co : CNodeGood R) {g : Geo} {l : List Nat} {s : Value} {i : Nat} {h : Hs} (x : g.Ok) (hl : l.length = 8 * g.b) (sm : Small l) (r : Rd h s 1 (Wl l)) (hi : i ≤ 100000) (hd : ∀ d, ¬ INode g l i d) :
 r12 R N [imgV g s, .int .i64 (.ofNat i)] h = some (.val (.tuple #[nd0.v none 0, .bool false]) h) := by
 refine WP.eqn ?_
 have cng := cn g i
 have cbg := cb g l s (g.nodeAt i)
 have cog := co g
 unfold r12 imgV
 unfold imgV at cbg
 unfold Geo.v at cng cog
 have H := Sto.enter1 r
 have h1 := x.1.b2
 have h2 := x.1.num
 have h3 := x.2
 have h4 := nodeAt_in (i := i) x
 have n0 : (1 ≤ i ∧ i ≤ g.n) → g.nodeAt i = g.bitsAt + g.bitsN + i - 1 := fun z => if_pos z
 have n1 : ¬ (1 ≤ i ∧ i ≤ g.n) → g.nodeAt i = 0 := fun z => if_neg z
 repeat' (first | (refine w_callE (cng _ x hi) ?_) | (with_reducible refine w_jn ?_) | (with_reducible refine w_cndT ?_) | (with_reducible refine w_cndF ?_) | (with_reducible refine w_unC ?_) | (with_reducible refine w_enK ?_) | (with_reducible refine w_fieldA ?_) | ((with_reducible apply w_build) ; rfl; (try dsimp only [splice, ev, cellsL, rep, List.cons_append, List.nil_append])) | ((with_reducible refine w_boxA H ?_) ; (clear H; intro u H hu)) | ((with_reducible refine w_alloc H ?_) ; (clear H; intro u H hu)) | ((with_reducible refine w_eql_NN (fun _ => ?_) (fun _ => ?_)) <;> first | (exfalso; omega) | skip) | ((with_reducible apply w_storeV 0 H) ; rfl; rfl; rfl; omega; rfl; (clear H; intro u H hu; (try dsimp only [List.set_cons_zero, List.set_cons_succ, cellsL, List.toList_toArray, splice, ev, rep, List.cons_append, List.nil_append] at H))) | ((with_reducible apply w_retC 0 H) ; rfl; rfl; rfl) | ((with_reducible apply w_loadsF 1 H) ; rfl; rfl; rfl) | ((with_reducible apply w_loads 1 H) ; rfl; rfl; rfl; rfl; (try dsimp only [List.drop_zero, List.drop_succ_cons, List.take_succ_cons, List.take_zero])))
 ·exact w_clr H rfl ⟨rfl, rfl⟩
 ·have ir : 1 ≤ i ∧ i ≤ g.n := Decidable.byContradiction fun z => by have := n1 z; omega
  refine w_call (cbg _ (by omega) (H.rd 2 rfl) (by omega)) fun v u1 n1 => ?_
  have bl := blockAt_len (l := l) (i := g.nodeAt i) (by omega)
  replace n1 := n1.ones
  rw [← Wl_ones] at n1
  replace H := H.call n1
  refine w_call (cg (blockAt l (g.nodeAt i)) v _ (sm.block _) (by omega) (H.rd 0 rfl)) fun v2 u2 n2 => ?_
  unfold QGet at n2
  cases hd2 : getNode (blockAt l (g.nodeAt i)) with
  | none =>
   rw [hd2] at n2
   obtain ⟨rfl, rfl⟩ := n2
   unfold Nd.v nd0
   repeat' (first | (with_reducible refine w_jn ?_) | (with_reducible refine w_cndT ?_) | (with_reducible refine w_gFt ?_) | (with_reducible refine w_pickT ?_) | (with_reducible refine w_notF ?_) | ((with_reducible apply w_extr) ; rfl) | ((with_reducible apply w_build) ; rfl; (try dsimp only [splice, ev, cellsL, rep, List.cons_append, List.nil_append])) | ((with_reducible refine w_alloc H ?_) ; (clear H; intro u H hu)) | ((with_reducible apply w_storeV 0 H) ; rfl; rfl; rfl; omega; rfl; (clear H; intro u H hu; (try dsimp only [List.set_cons_zero, List.set_cons_succ, cellsL, List.toList_toArray, splice, ev, rep, List.cons_append, List.nil_append] at H))) | ((with_reducible apply w_storeV 2 H) ; rfl; rfl; rfl; omega; rfl; (clear H; intro u H hu; (try dsimp only [List.set_cons_zero, List.set_cons_succ, cellsL, List.toList_toArray, splice, ev, rep, List.cons_append, List.nil_append] at H))) | ((with_reducible apply w_retC 2 H) ; rfl; rfl; rfl))
   exact w_clr H rfl ⟨rfl, rfl⟩
  | some d =>
   rw [hd2] at n2
   obtain ⟨a, c, rfl, n2⟩ := n2
   replace H := H.call n2
   have dm := fits_mod (getNode_fits hd2).1
   unfold Nd.v
   repeat' (first | (with_reducible refine w_gFf ?_) | (with_reducible refine w_notT ?_) | (with_reducible refine w_fieldA ?_) | ((with_reducible apply w_extr) ; rfl) | ((with_reducible refine w_alloc H ?_) ; (clear H; intro u H hu)) | ((with_reducible apply w_storeV 0 H) ; rfl; rfl; rfl; omega; rfl; (clear H; intro u H hu; (try dsimp only [List.set_cons_zero, List.set_cons_succ, cellsL, List.toList_toArray, splice, ev, rep, List.cons_append, List.nil_append] at H))) | ((with_reducible apply w_loadsF 0 H) ; rfl; rfl; rfl) | ((with_reducible apply w_loads 4 H) ; rfl; rfl; rfl; rfl; (try dsimp only [List.drop_zero, List.drop_succ_cons, List.take_succ_cons, List.take_zero])))
   refine w_call (cog d a c _ x dm (H.rdOR 1 rfl)) fun v3 u3 hv => ?_
   obtain ⟨rfl, b, rfl, hb⟩ := hv
   cases b with
   | true => exact absurd ⟨ir.1, ir.2, hd2, hb.1 rfl⟩ (hd d)
   | false =>
    repeat' (first | (with_reducible refine w_jn ?_) | (with_reducible refine w_cndT ?_) | (with_reducible refine w_gFf ?_) | (with_reducible refine w_pickF ?_) | (with_reducible refine w_notF ?_) | ((with_reducible apply w_build) ; rfl; (try dsimp only [splice, ev, cellsL, rep, List.cons_append, List.nil_append])) | ((with_reducible apply w_storeV 3 H) ; rfl; rfl; rfl; omega; rfl; (clear H; intro u H hu; (try dsimp only [List.set_cons_zero, List.set_cons_succ, cellsL, List.toList_toArray, splice, ev, rep, List.cons_append, List.nil_append] at H))) | ((with_reducible apply w_retC 3 H) ; rfl; rfl; rfl))
    exact w_clr H rfl ⟨rfl, rfl⟩
end Go.Proofs.Ytmolikcajfphlaa.editSlots

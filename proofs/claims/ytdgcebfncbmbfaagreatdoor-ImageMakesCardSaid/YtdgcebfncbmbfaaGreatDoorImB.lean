/- Contracts of functions, by the logic of residual programs. -/
import Derived.Test.YtdgcebfncbmbfaaGreatDoorImA
namespace Go.Proofs.YtdgcebfncbmbfaaGreatDoor.imageMakes
open Go Go.Gev
set_option linter.unusedVariables false
def B_s (l : List Nat) (i : Nat) : List Nat := (l.drop (8 * i)).take 8
theorem G_m {l : List Nat} {i : Nat} (h : 8 * i + 8 ≤ l.length) : (B_s l i).length = 8 := by
 unfold B_s; rw [List.length_take, List.length_drop]; omega
def CBlock (R : RnK) : Prop := ∀ (g : Geo) (l : List Nat) (s : Value) (i : Nat) (h : Hs), l.length < 100000 → Rd h s 1 (Wl l) → 8 * i + 8 ≤ l.length →
 WP (R 65 [imgV g s, .int .i64 (.ofNat i)] h) fun v h' => New h h' (OW v (B_s l i))
theorem e_h {R : RnK} {N : Nat} (cc : CCloneW R) {g : Geo} {l : List Nat} {s : Value} {i : Nat} {h : Hs} (hb : l.length < 100000) (r : Rd h s 1 (Wl l)) (hi : 8 * i + 8 ≤ l.length) :
 WP (r65 R N [imgV g s, .int .i64 (.ofNat i)] h) fun v h' => New h h' (OW v (B_s l i)) := by
 unfold r65 imgV
 obtain ⟨a, c, rfl⟩ := r.1.form
 have H := Sto.enter1 r
 have e := C_w l
 repeat' (first | (with_reducible first | refine w_jn ?_ | refine A_j ?_ | refine C_3 ?_ | refine A_4 ?_ | refine A_0 ?_ | refine A_3 ?_ | refine A_e ?_ | refine C_s ?_) | ((with_reducible refine A_8 H ?_) ; (clear H; intro u H hu)) | ((with_reducible first | refine A_r (fun _ => ?_) (fun _ => ?_) | refine D_2 (fun _ => ?_) (fun _ => ?_)) <;> first | (exfalso; omega) | skip) | ((with_reducible first | refine A_m ?_ ?_ | refine C_h ?_ ?_) ; omega) | ((with_reducible refine D_s ?_ ?_ ?_) ; omega; omega) | ((with_reducible apply A_q 0 H) ; rfl; rfl; rfl))
 refine O_c 1 H rfl (by omega) (by omega) fun s2 H2 => ?_
 clear H
 rw [H_x, J_6, show 8 * (i + 1) - 8 * i = 8 by omega] at H2
 refine A_1 (cc _ _ _ (by rw [show (l.drop (8 * i)).take 8 = B_s l i from rfl, G_m hi]; omega) (H2.rd 0 rfl)) fun v' u2 n => ?_
 have H := H2.call n
 exact F_c 0 H rfl fun v' h' n => n
def decR (v : Nat) : Nat × Nat := (v &&& 4294967295, v / 2 ^ 32)
def F_e (l : List Nat) : List (Nat × Nat) := (l.takeWhile fun v => v != 0).map decR
def decN (a b : Nat) (rs : List Nat) : Nd := ⟨a &&& 255, a / 2 ^ 8, b, F_e rs⟩
theorem l_7 {Q : Value → Hs → Prop} {T : Type} {k : T} {F : T → An} (w : ∀ K : T, K = k → WP (F K) Q) : WP (jn k F) Q := w k rfl
def C_0 (l : List Nat) : Option Nd := match l with
 | [a, b, r0, r1, r2, r3, _, _] => if a / 2 ^ 32 = 0 ∧ b ≤ 1099511627776 ∧ (decN a b [r0, r1, r2, r3]).fits ∧ B_x (decN a b [r0, r1, r2, r3]) = l then some (decN a b [r0, r1, r2, r3]) else none
 | _ => none
def Rc (l : List (Nat × Nat)) : List Value := (Rl l).flatten
theorem W_w (l : List (Nat × Nat)) (x : Nat × Nat) : Rc (l ++ [x]) = Rc l ++ rv x := by
 unfold Rc Rl; rw [List.map_append, List.flatten_append]; show _ ++ (rv x ++ []) = _; rw [List.append_nil]
theorem _root_.Go.Gev.Sto.rdOU {h0 h : Hs} {S : List Nat} {m : List Th} (k : Nat) {v : Value} {e u n : Nat} {fl : Bool} {L : List Value} {Ls : List (List Value)} (H : Sto h0 S h m) (hk : m[k]? = some (.osl v e u fl n L)) (hL : L = Ls.flatten) (hu : ∀ l ∈ Ls, l.length = u) (hn : Ls.length = n) : Rd h v u Ls := by
 obtain ⟨hl, o⟩ := H.ok _ (List.mem_of_getElem? hk)
 have hid := H.ids _ (List.mem_of_getElem? hk)
 rcases o with ⟨rfl, rfl⟩ | ⟨id, c, cs, sz, f, rfl, hc, hb, hf, hsz, hc'⟩
 ·have : Ls = [] := List.eq_nil_of_length_eq_zero hn
  subst this
  exact Rd.none _ _
 ·refine ⟨⟨hu, .inr ⟨id, 0, c, cs, sz, e, u, true, f, by rw [hn], by omega, hb, .inr rfl, fun i j l hi hj => ?_⟩⟩, fun b' hb' => ?_⟩
  ·have hx := flatten_get hu i j hj
   rw [hi] at hx
   have hll := hu l (List.mem_of_getElem? hi)
   have hlt : i * u + j < L.length := by
    have := (List.getElem?_eq_some_iff.1 hi).1
    rw [hl]
    have : (i + 1) * u ≤ n * u := Nat.mul_le_mul_right _ (by omega)
    rw [Nat.add_mul] at this
    omega
   rw [Nat.zero_add, hc' _ hlt, hL, hx]; rfl
  ·have : b' = id := by
    cases hq : Ls with
    | nil => rw [hq] at hb'; cases hb'
    | cons x Ls' => rw [hq] at hb'; injection hb' with q; exact q.symm
   subst this
   exact (hid _ rfl).1
theorem _root_.Go.Gev.Sto.rdOR {h0 h : Hs} {S : List Nat} {m : List Th} (k : Nat) {v : Value} {l : List (Nat × Nat)} (H : Sto h0 S h m) (hk : m[k]? = some (.osl v 60 2 true l.length (Rc l))) : Rd h v 2 (Rl l) :=
 H.rdOU k hk rfl (L_n l) (D_9 l)
theorem d_b {l : List Nat} {i : Nat} (hi : i < l.length) (h : ∀ x ∈ l.take i, x ≠ 0) (z : l[i] = 0) : F_e l = (l.take i).map decR := by
 unfold F_e
 congr 1
 conv => lhs; rw [← List.take_append_drop i l]
 rw [List.takeWhile_append_of_pos (by intro x hx; simpa using h x hx), List.drop_eq_getElem_cons hi, List.takeWhile_cons_of_neg (by simp [z]), List.append_nil]
theorem V_6 {l : List Nat} (h : ∀ x ∈ l, x ≠ 0) : F_e l = l.map decR := by
 unfold F_e
 congr 1
 have := List.takeWhile_append_of_pos (p := fun v => v != 0) (l₁ := l) (l₂ := []) (by intro x hx; simpa using h x hx)
 simpa using this
def nd0 : Nd := ⟨0, 0, 0, []⟩
abbrev OR (v : Value) (l : List (Nat × Nat)) : Th := .osl v 60 2 true l.length (Rc l)
def QGet (l : List Nat) (h : Hs) (r : Value) (h' : Hs) : Prop := match C_0 l with
 | some d => ∃ a c, r = .tuple #[d.v a c, .bool true] ∧ New h h' (OR (.slice a d.rs.length c) d.rs)
 | none => r = .tuple #[nd0.v none 0, .bool false] ∧ h' = h
def CNodeGet (R : RnK) : Prop := ∀ (l : List Nat) (v : Value) (h : Hs), Small l → l.length < 100000 → Rd h v 1 (Wl l) → WP (R 64 [v] h) (QGet l h)
theorem P_0 {l : List Nat} (h : l.length ≠ 8) : C_0 l = none := by
 unfold C_0
 split
 ·exact absurd rfl h
 ·rfl
theorem U_k {R : RnK} {N : Nat} (cp : CNodePut R) (ce : CEqW R) {l : List Nat} {v : Value} {h : Hs} (hN : 100 < N) (hl : Small l) (hb : l.length < 100000) (r : Rd h v 1 (Wl l)) : WP (r64 R N [v] h) (QGet l h) := by
 unfold r64
 have H := Sto.enter1 r
 have e := C_w l
 obtain ⟨a, c, rfl⟩ := r.1.formN e
 by_cases h8 : l.length = 8
 ·obtain ⟨x0, x1, x2, x3, x4, x5, x6, x7, rfl⟩ : ∃ x0 x1 x2 x3 x4 x5 x6 x7, l = [x0, x1, x2, x3, x4, x5, x6, x7] := by
   match l, h8 with
   | [x0, x1, x2, x3, x4, x5, x6, x7], _ => exact ⟨_, _, _, _, _, _, _, _, rfl⟩
  have b0 : x0 < 18446744073709551616 := hl x0 (by simp)
  have b1 : x1 < 18446744073709551616 := hl x1 (by simp)
  have b2 : x2 < 18446744073709551616 := hl x2 (by simp)
  have b3 : x3 < 18446744073709551616 := hl x3 (by simp)
  have b4 : x4 < 18446744073709551616 := hl x4 (by simp)
  have b5 : x5 < 18446744073709551616 := hl x5 (by simp)
  repeat' (first | (with_reducible first | refine C_3 ?_ | refine A_0 ?_ | refine A_3 ?_ | refine C_s ?_) | ((with_reducible refine A_z H ?_) ; (clear H; intro u H hu)) | ((with_reducible refine C_y (fun _ => ?_) (fun _ => ?_)) <;> first | (exfalso; omega) | skip))
  ·have g0 : (Wl [x0, x1, x2, x3, x4, x5, x6, x7])[0]? = some [.int .u64 (.ofNat x0)] := rfl
   have g1 : (Wl [x0, x1, x2, x3, x4, x5, x6, x7])[1]? = some [.int .u64 (.ofNat x1)] := rfl
   refine O_2 1 H rfl g0 fun bb oo H1 => ?_
   repeat' (first | (with_reducible refine C_3 ?_))
   refine I_y 0 H1 rfl rfl rfl ?_
   clear H1
   repeat' (first | (with_reducible first | refine w_jn ?_ | refine A_l ?_ | refine G_d ?_ | refine C_3 ?_ | refine A_5 ?_ | refine A_4 ?_) | ((with_reducible apply A_9) ; rfl; (try dsimp only [splice, ev, A_b, rep, List.cons_append, List.nil_append])) | ((with_reducible refine W_c (fun _ => ?_) (fun _ => ?_)) <;> first | (exfalso; omega) | skip) | ((with_reducible refine a_m ?_ ?_) ; omega) | ((with_reducible apply A_i 0 H) ; rfl; rfl; rfl; omega; rfl; (clear H; intro u H hu; (try dsimp only [List.set_cons_zero, List.set_cons_succ, A_b, List.toList_toArray, splice, ev, rep, List.cons_append, List.nil_append] at H))) | ((with_reducible apply B_9 0 H) ; rfl; rfl; rfl))
   ·refine O_2 1 H rfl g1 fun bb oo H1 => ?_
    repeat' (first | (with_reducible refine C_3 ?_))
    refine I_y 0 H1 rfl rfl rfl ?_
    clear H1
    have c0 : x0 &&& 255 ≤ 255 := Nat.and_le_right
    repeat' (first | (with_reducible first | refine w_jn ?_ | refine A_l ?_ | refine A_j ?_ | refine C_3 ?_ | refine A_4 ?_ | refine C_z ?_) | ((with_reducible apply A_9) ; rfl; (try dsimp only [splice, ev, A_b, rep, List.cons_append, List.nil_append])) | ((with_reducible first | refine E_0 ?_ ?_ | refine Y_k ?_ ?_ | refine a_m ?_ ?_) ; omega) | ((with_reducible refine I_1 H ?_) ; (clear H; intro u H hu)) | ((with_reducible refine e_6 (fun _ => ?_) (fun _ => ?_)) <;> first | (exfalso; omega) | skip) | ((with_reducible refine W_x ?_ ?_ ?_) ; omega; omega) | ((with_reducible apply A_i 0 H) ; rfl; rfl; rfl; omega; rfl; (clear H; intro u H hu; (try dsimp only [List.set_cons_zero, List.set_cons_succ, A_b, List.toList_toArray, splice, ev, rep, List.cons_append, List.nil_append] at H))) | ((with_reducible apply B_9 0 H) ; rfl; rfl; rfl) | ((with_reducible apply H_h 1 H) ; rfl; rfl; rfl; rfl))
    ·rw [show QGet [x0, x1, x2, x3, x4, x5, x6, x7] h = fun r h' => r = .tuple #[nd0.v none 0, .bool false] ∧ h' = h from by funext r h'; unfold QGet; rw [show C_0 [x0, x1, x2, x3, x4, x5, x6, x7] = none from if_neg (by omega)]]
     exact A_u H rfl ⟨rfl, rfl⟩
    ·refine O_c 2 H rfl (by omega) (by simp [C_w]) fun s H1 => ?_
     clear H
     have H := H1
     clear H1
     rw [H_x, J_6] at H
     have hws : (List.drop 2 [x0, x1, x2, x3, x4, x5, x6, x7]).take (6 - 2) = [x2, x3, x4, x5] := rfl
     rw [hws] at H
     obtain ⟨aS, cs, rfl⟩ := (H.rd 0 rfl).1.formN (C_w [x2, x3, x4, x5])
     refine C_s ?_
     rename_i ua hua q8 bb oo q0 q1 ub hub
     refine l_7 fun K hK => ?_
     replace H := H.nilS 60 2
     have tail : ∀ (y1 y2 y3 y4 : Value) (fl : Bool) (ac : Option Addr) (cc : Nat) (w : Hs), Sto h [] w [OR (.slice ac (F_e [x2, x3, x4, x5]).length cc) (F_e [x2, x3, x4, x5]), .rsl (.slice aS [x2, x3, x4, x5].length cs) 1 (Wl [x2, x3, x4, x5]), .blk ua.nx (.row 58 0 true fl [.int .i64 (.ofNat (x0 &&& 255)), .int .i64 (.ofNat (x0 / 2 ^ 8)), .int .i64 (.ofNat x1), .slice ac (F_e [x2, x3, x4, x5]).length cc]), .blk h.nx (.row 58 0 true true [.int .i64 (.ofNat 0), .int .i64 (.ofNat 0), .int .i64 (.ofNat 0), .slice none 0 0]), .rsl (.slice a [x0, x1, x2, x3, x4, x5, x6, x7].length c) 1 (Wl [x0, x1, x2, x3, x4, x5, x6, x7])] → WP (K y1 y2 y3 y4 w) (QGet [x0, x1, x2, x3, x4, x5, x6, x7] h) := by
      clear H
      intro y1 y2 y3 y4 fl ac cc w H
      rw [hK]
      have dl : (F_e [x2, x3, x4, x5]).length ≤ 4 := by
       unfold F_e
       rw [List.length_map]
       exact (List.takeWhile_sublist _).length_le
      repeat' (first | ((with_reducible apply A_f 2 H) ; rfl; rfl; rfl))
      have rd := H.rdOR 0 rfl
      have cpd := cp (decN x0 x1 [x2, x3, x4, x5]) ac cc w (by show (F_e _).length < _; omega) rd
      by_cases hf : (decN x0 x1 [x2, x3, x4, x5]).fits
      ·refine A_1 (cpd.1 hf) fun v2 u2 n2 => ?_
       replace n2 := n2.ones
       rw [← B_n] at n2
       replace H := H.call n2
       refine B_a (ce _ [x0, x1, x2, x3, x4, x5, x6, x7] _ _ _ (by rw [K_k (show (F_e [x2, x3, x4, x5]).length ≤ 4 from dl)]; omega) (H.rd 0 rfl) (H.rd 5 rfl)) (fun q => ?_) (fun q => ?_)
       ·repeat' (first | (with_reducible first | refine w_jn ?_ | refine A_j ?_ | refine B_k ?_) | ((with_reducible apply A_f 3 H) ; rfl; rfl; rfl) | ((with_reducible apply A_i 4 H) ; rfl; rfl; rfl; omega; rfl; (clear H; intro u H hu; (try dsimp only [List.set_cons_zero, List.set_cons_succ, A_b, List.toList_toArray, splice, ev, rep, List.cons_append, List.nil_append] at H))) | ((with_reducible apply B_9 4 H) ; rfl; rfl; rfl))
        rw [show QGet [x0, x1, x2, x3, x4, x5, x6, x7] h = fun r h' => ∃ a c, r = .tuple #[(decN x0 x1 [x2, x3, x4, x5]).v a c, .bool true] ∧ New h h' (OR (.slice a (decN x0 x1 [x2, x3, x4, x5]).rs.length c) (decN x0 x1 [x2, x3, x4, x5]).rs) from by
         funext r h'; unfold QGet; rw [show C_0 [x0, x1, x2, x3, x4, x5, x6, x7] = some (decN x0 x1 [x2, x3, x4, x5]) from if_pos ⟨q0, by omega, hf, q⟩]]
        exact I_b (fun v => .tuple #[.agg #[.int .i64 (.ofNat (x0 &&& 255)), .int .i64 (.ofNat (x0 / 2 ^ 8)), .int .i64 (.ofNat x1), v], .bool true]) 1 H rfl (fun _ _ _ => by simp [blkV, blkP, blkC]) (fun _ _ _ _ => rfl) fun v' h' n' => by
         obtain ⟨a', c', rfl⟩ := n'.2.1.form
         exact ⟨a', c', rfl, n'⟩
       ·repeat' (first | (with_reducible first | refine w_jn ?_ | refine A_l ?_ | refine B_u ?_) | ((with_reducible apply A_9) ; rfl; (try dsimp only [splice, ev, A_b, rep, List.cons_append, List.nil_append])) | ((with_reducible apply A_i 4 H) ; rfl; rfl; rfl; omega; rfl; (clear H; intro u H hu; (try dsimp only [List.set_cons_zero, List.set_cons_succ, A_b, List.toList_toArray, splice, ev, rep, List.cons_append, List.nil_append] at H))) | ((with_reducible apply B_9 4 H) ; rfl; rfl; rfl))
        rw [show QGet [x0, x1, x2, x3, x4, x5, x6, x7] h = fun r h' => r = .tuple #[nd0.v none 0, .bool false] ∧ h' = h from by funext r h'; unfold QGet; rw [show C_0 [x0, x1, x2, x3, x4, x5, x6, x7] = none from if_neg fun z => q z.2.2.2]]
        exact A_u H rfl ⟨rfl, rfl⟩
      ·refine A_n (cpd.2 hf) ?_
       refine B_a (ce [] [x0, x1, x2, x3, x4, x5, x6, x7] _ _ _ (by simp) (Rd.none _ _) (H.rd 4 rfl)) (fun q => by cases q) (fun q => ?_)
       repeat' (first | (with_reducible first | refine w_jn ?_ | refine A_l ?_ | refine B_u ?_) | ((with_reducible apply A_9) ; rfl; (try dsimp only [splice, ev, A_b, rep, List.cons_append, List.nil_append])) | ((with_reducible apply A_i 3 H) ; rfl; rfl; rfl; omega; rfl; (clear H; intro u H hu; (try dsimp only [List.set_cons_zero, List.set_cons_succ, A_b, List.toList_toArray, splice, ev, rep, List.cons_append, List.nil_append] at H))) | ((with_reducible apply B_9 3 H) ; rfl; rfl; rfl))
       rw [show QGet [x0, x1, x2, x3, x4, x5, x6, x7] h = fun r h' => r = .tuple #[nd0.v none 0, .bool false] ∧ h' = h from by funext r h'; unfold QGet; rw [show C_0 [x0, x1, x2, x3, x4, x5, x6, x7] = none from if_neg fun z => hf z.2.2.1]]
       exact A_u H rfl ⟨rfl, rfl⟩
     clear hK
     have wl : [x2, x3, x4, x5].length = 4 := rfl
     have wb : ∀ x ∈ [x2, x3, x4, x5], x < 18446744073709551616 := fun x hx => hl x (by simp at hx ⊢; omega)
     clear hws
     generalize [x2, x3, x4, x5] = ws at *
     obtain ⟨m0, hm0, H0⟩ : ∃ m0, m0 = _ ∧ Sto h [] u m0 := ⟨_, rfl, H⟩
     clear H
     refine C_d (Good := fun n (self : L4) => ∀ (i : Nat) (y1 y2 y3 : Value) (fl : Bool) (ac : Option Addr) (cc : Nat) (w : Hs), i + n = 4 → (∀ x ∈ ws.take i, x ≠ 0) → Sto h [] w ((m0.set 0 (.osl (.slice ac i cc) 60 2 true i (Rc ((ws.take i).map decR)))).set 2 (.blk ua.nx (.row 58 0 true fl [.int .i64 (.ofNat (x0 &&& 255)), .int .i64 (.ofNat (x0 / 2 ^ 8)), .int .i64 (.ofNat x1), .slice ac i cc]))) → WP (self (.int .i64 (.ofNat i)) y1 y2 y3 w) (QGet [x0, x1, x2, x3, x4, x5, x6, x7] h)) (fun n self ih i y1 y2 y3 fl ac cc w hi hq H1 => ?_) N 4 (by omega) 0 _ _ _ true none 0 _ (by omega) (by simp) (by rw [hm0]; rw [hm0] at H0; exact H0)
     have hm1 := hm0
     rw [hm0] at H1
     have H := H1
     clear H1 H0
     dsimp only [List.set_cons_zero, List.set_cons_succ] at H
     have tk : ∀ q : i < ws.length, ws.take (i + 1) = ws.take i ++ [ws[i]] := fun q => by rw [List.take_add_one, List.getElem?_eq_getElem q]; rfl
     repeat' (first | (with_reducible first | refine w_jn ?_ | refine A_l ?_ | refine A_j ?_) | ((with_reducible refine A_r (fun _ => ?_) (fun _ => ?_)) <;> first | (exfalso; omega) | skip))
     ·have ii : i < ws.length := by omega
      refine H_h 1 H rfl (I_f ii) rfl rfl ?_
      have wi := wb ws[i] (List.getElem_mem ii)
      have a1 : ws[i] &&& 4294967295 ≤ 4294967295 := Nat.and_le_right
      repeat' (first | (with_reducible first | refine w_jn ?_ | refine A_l ?_ | refine A_j ?_ | refine A_e ?_) | ((with_reducible apply A_9) ; rfl; (try dsimp only [splice, ev, A_b, rep, List.cons_append, List.nil_append])) | ((with_reducible apply C_e H) ; rfl; (clear H; intro u H hu; (try dsimp only [List.set_cons_zero, List.set_cons_succ, A_b, List.toList_toArray, splice, ev, rep, List.cons_append, List.nil_append] at H))) | ((with_reducible refine l_m (fun _ => ?_) (fun _ => ?_)) <;> first | (exfalso; omega) | skip) | ((with_reducible first | refine Y_k ?_ ?_ | refine a_m ?_ ?_) ; omega) | ((with_reducible refine W_x ?_ ?_ ?_) ; omega; omega) | ((with_reducible apply A_q 2 H) ; rfl; rfl; rfl))
      ·have et := d_b ii hq (by assumption)
       have el : (F_e ws).length = i := by rw [et, List.length_map, List.length_take]; omega
       refine tail _ _ _ _ fl ac cc _ ?_
       unfold OR
       rw [el, et]
       exact H
      ·refine D_u 1 0 H rfl rfl rfl rfl (by omega) (by omega) fun v3 u4 H4 hn4 => ?_
       clear H
       have H := H4.tail
       clear H4
       dsimp only [List.set_cons_zero, List.set_cons_succ] at H
       have rc : Rc ((ws.take (i + 1)).map decR) = Rc ((ws.take i).map decR) ++ [.int .i64 (.ofNat (ws[i] &&& 4294967295)), .int .i64 (.ofNat (ws[i] / 2 ^ 32))] := by
        rw [tk ii, List.map_append, List.map_singleton, W_w]; rfl
       obtain ⟨a3, c3, rfl⟩ := (show OwnSl u4 v3 60 2 _ _ _ from H.ok _ (List.mem_of_getElem? (i := 0) rfl)).form
       repeat' (first | (with_reducible refine A_e ?_) | ((with_reducible refine A_m ?_ ?_) ; omega) | ((with_reducible apply M_k 2 H) ; rfl; (simp only [List.length_cons, List.length_nil]; omega); rfl; (clear H; intro u H hu; (try dsimp only [List.set_cons_zero, List.set_cons_succ, A_b, List.toList_toArray, splice, ev, rep, List.cons_append, List.nil_append] at H))))
       refine ih (n - 1) (by omega) (i + 1) _ _ _ (andB fl (flat1 (.slice a3 (i + 1) c3))) a3 c3 _ (by omega) (fun x hx => ?_) ?_
       ·rw [tk ii, List.mem_append] at hx
        rcases hx with hx | hx
        ·exact hq x hx
        ·rw [List.mem_singleton.1 hx]; assumption
       ·rw [hm1, rc]
        exact H
     ·have ie : i = ws.length := by omega
      have et : F_e ws = (ws.take i).map decR := by rw [ie, List.take_length]; rw [ie, List.take_length] at hq; exact V_6 hq
      have el : (F_e ws).length = i := by rw [et, List.length_map, List.length_take]; omega
      refine tail _ _ _ _ fl ac cc _ ?_
      unfold OR
      rw [el, et]
      exact H
   ·rw [show QGet [x0, x1, x2, x3, x4, x5, x6, x7] h = fun r h' => r = .tuple #[nd0.v none 0, .bool false] ∧ h' = h from by funext r h'; unfold QGet; rw [show C_0 [x0, x1, x2, x3, x4, x5, x6, x7] = none from if_neg (by omega)]]
    exact A_u H rfl ⟨rfl, rfl⟩
 ·repeat' (first | (with_reducible first | refine w_jn ?_ | refine A_l ?_ | refine G_d ?_ | refine A_5 ?_ | refine A_0 ?_ | refine A_3 ?_ | refine C_s ?_) | ((with_reducible apply A_9) ; rfl; (try dsimp only [splice, ev, A_b, rep, List.cons_append, List.nil_append])) | ((with_reducible refine A_z H ?_) ; (clear H; intro u H hu)) | ((with_reducible refine C_y (fun _ => ?_) (fun _ => ?_)) <;> first | (exfalso; omega) | skip) | ((with_reducible apply A_i 0 H) ; rfl; rfl; rfl; omega; rfl; (clear H; intro u H hu; (try dsimp only [List.set_cons_zero, List.set_cons_succ, A_b, List.toList_toArray, splice, ev, rep, List.cons_append, List.nil_append] at H))) | ((with_reducible apply B_9 0 H) ; rfl; rfl; rfl))
  rw [show QGet l h = fun r h' => r = .tuple #[nd0.v none 0, .bool false] ∧ h' = h from by funext r h'; unfold QGet; rw [P_0 h8]]
  exact A_u H rfl ⟨rfl, rfl⟩
theorem h_p (neg : Bool) (p q : Nat × Nat) : e2 neg (qA [.i, .i]) (.agg (rv p).toArray) (.agg (rv q).toArray) = some (.bool (if neg then !decide (p = q) else decide (p = q))) := by
 obtain ⟨a, b⟩ := p
 obtain ⟨c, d⟩ := q
 show P_r neg (match (some (Nat.beq a c) : Option Bool) with | some t => (match t with | true => (match (some (Nat.beq b d) : Option Bool) with | some t => (match t with | true => some true | false => some false) | none => none) | false => some false) | none => none) = _
 by_cases h1 : a = c
 ·subst h1
  rw [Nat.beq_refl]
  by_cases h2 : b = d
  ·subst h2
   rw [Nat.beq_refl]
   cases neg <;> simp [P_r, notB]
  ·rw [show Nat.beq b d = false from by rw [Bool.eq_false_iff]; exact fun e => h2 (Nat.eq_of_beq_eq_true e)]
   cases neg <;> simp [P_r, notB, h2]
 ·rw [show Nat.beq a c = false from by rw [Bool.eq_false_iff]; exact fun e => h1 (Nat.eq_of_beq_eq_true e)]
  cases neg <;> simp [P_r, notB, h1]
def CEqR (R : RnK) : Prop := ∀ (a b : List (Nat × Nat)) (v w : Value) (h : Hs), a.length < 100000 → Rd h v 2 (Rl a) → Rd h w 2 (Rl b) → R 106 [v, w] h = some (.val (.bool (decide (a = b))) h)
theorem k_f {R : RnK} {N : Nat} {a b : List (Nat × Nat)} {v w : Value} {h : Hs} (hN : 100000 < N) (ha : a.length < 100000) (r1 : Rd h v 2 (Rl a)) (r2 : Rd h w 2 (Rl b)) : r106 R N [v, w] h = some (.val (.bool (decide (a = b))) h) := by
 refine WP.eqn ?_
 unfold r106
 have H := Sto.enter2 r1 r2
 have l1 := D_9 a
 have l2 := D_9 b
 repeat' (first | (with_reducible first | refine w_jn ?_ | refine A_l ?_ | refine A_j ?_ | refine A_0 ?_ | refine A_3 ?_) | ((with_reducible refine C_y (fun _ => ?_) (fun _ => ?_)) <;> first | (exfalso; omega) | skip) | ((with_reducible apply D_l 0 H) ; rfl) | ((with_reducible apply D_l 1 H) ; rfl))
 ·refine C_d (Good := fun n (self : L5) => ∀ (i : Nat) (x1 x2 x3 x4 : Value), i + n = a.length → (∀ j, j < i → a[j]? = b[j]?) → WP (self (.int .i64 (.ofNat i)) x1 x2 x3 x4 ⟨h.hp, h.nx, h.nx⟩) (fun v' h' => v' = .bool (decide (a = b)) ∧ h' = h)) (fun n self ih i x1 x2 x3 x4 hi hq => ?_) N a.length (by omega) 0 _ _ _ _ (by omega) (fun j hj => by omega)
  repeat' (first | (with_reducible first | refine w_jn ?_ | refine A_l ?_ | refine A_j ?_) | ((with_reducible refine A_r (fun _ => ?_) (fun _ => ?_)) <;> first | (exfalso; omega) | skip))
  ·have ia : i < a.length := by omega
   have ib : i < b.length := by omega
   refine w_at 0 H rfl (G_i ia) rfl rfl ?_
   refine w_at 1 H rfl (G_i ib) rfl rfl ?_
   refine w_ob (v := .bool (!decide (a[i] = b[i]))) (h_p true a[i] b[i]) ?_
   cases hd : decide (a[i] = b[i]) with
   | true =>
    show WP (cnd (.bool false) _ _) _
    repeat' (first | (with_reducible refine A_j ?_) | ((with_reducible refine A_m ?_ ?_) ; omega))
    refine ih (n - 1) (by omega) (i + 1) _ _ _ _ (by omega) fun j hj => ?_
    by_cases e : j = i
    ·subst e; rw [List.getElem?_eq_getElem ia, List.getElem?_eq_getElem ib]; congr 1; exact of_decide_eq_true hd
    ·exact hq j (by omega)
   | false =>
    show WP (cnd (.bool true) _ _) _
    repeat' (first | (with_reducible refine A_l ?_))
    exact C_5 H (by simp; intro e; subst e; exact of_decide_eq_false hd rfl)
  ·exact C_5 H (by simp; exact List.ext_getElem? fun j => if hj : j < i then hq j hj else by rw [List.getElem?_eq_none (by omega), List.getElem?_eq_none (by omega)])
 ·exact C_5 H (by simp; intro e; subst e; omega)
structure Nd.Mod (d : Nd) : Prop where
 ty : d.ty ≤ 100000
 ln : d.ln ≤ 1099511627776
 sz : d.sz ≤ 1099511627776
 rl : d.rs.length ≤ 1000
 rs : ∀ r ∈ d.rs, r.1 ≤ 4294967296 ∧ r.2 ≤ 4294967296
def sumR (l : List (Nat × Nat)) : Nat := (l.map fun r => r.2).sum
theorem W_v (l : List (Nat × Nat)) (r : Nat × Nat) : sumR (l ++ [r]) = sumR l + r.2 := by unfold sumR; rw [List.map_append, List.sum_append]; simp
theorem X_i {l : List (Nat × Nat)} (h : ∀ r ∈ l, r.1 ≤ 4294967296 ∧ r.2 ≤ 4294967296) : sumR l ≤ l.length * 4294967296 := by
 induction l with
 | nil => exact Nat.zero_le _
 | cons x l ih =>
  have h1 := (h x List.mem_cons_self).2
  have h2 := ih fun r hr => h r (List.mem_cons_of_mem _ hr)
  show x.2 + sumR l ≤ (l.length + 1) * 4294967296
  omega
def CBlocks (R : RnK) : Prop := ∀ (d : Nd) (a : Option Addr) (c : Nat) (h : Hs), d.Mod → Rd h (.slice a d.rs.length c) 2 (Rl d.rs) → R 88 [d.v a c] h = some (.val (.int .i64 (.ofNat (sumR d.rs))) h)
theorem V_4 {R : RnK} {N : Nat} {d : Nd} {a : Option Addr} {c : Nat} {h : Hs} (hN : 100000 < N) (dm : d.Mod) (r : Rd h (.slice a d.rs.length c) 2 (Rl d.rs)) : r88 R N [d.v a c] h = some (.val (.int .i64 (.ofNat (sumR d.rs))) h) := by
 refine WP.eqn ?_
 unfold r88 Nd.v
 have H := Sto.enter1 r
 have l1 := D_9 d.rs
 have m1 := dm.rl
 repeat' (first | (with_reducible first | refine w_jn ?_ | refine A_0 ?_ | refine A_3 ?_ | refine A_e ?_ | refine C_s ?_) | ((with_reducible refine A_8 H ?_) ; (clear H; intro u H hu)) | ((with_reducible apply A_q 0 H) ; rfl; rfl; rfl))
 have H0 := H
 refine C_d (Good := fun n (self : L4) => ∀ (i : Nat) (y1 y3 : Value) (m : List Th) (w : Hs), i + n = d.rs.length → Sto h [] w (.rsl (.slice a d.rs.length c) 2 (Rl d.rs) :: m) → WP (self (.int .i64 (.ofNat i)) y1 (.int .i64 (.ofNat (sumR (d.rs.take i)))) y3 w) (fun v' h' => v' = .int .i64 (.ofNat (sumR d.rs)) ∧ h' = h)) (fun n self ih i y1 y3 m w hi H => ?_) N d.rs.length (by omega) 0 _ _ [] _ (by omega) H.tail
 clear H0
 have sm := X_i (l := d.rs.take i) fun r hr => dm.rs r (List.mem_of_mem_take hr)
 rw [List.length_take] at sm
 repeat' (first | (with_reducible first | refine w_jn ?_ | refine A_l ?_ | refine A_j ?_) | ((with_reducible refine A_r (fun _ => ?_) (fun _ => ?_)) <;> first | (exfalso; omega) | skip))
 ·have ii : i < d.rs.length := by omega
  refine w_at 0 H rfl (G_i ii) rfl rfl ?_
  have rb := dm.rs _ (List.getElem_mem ii)
  have tk : sumR (d.rs.take (i + 1)) = sumR (d.rs.take i) + d.rs[i].2 := by rw [List.take_add_one, List.getElem?_eq_getElem ii]; exact W_v _ _
  repeat' (first | (with_reducible refine A_e ?_) | ((with_reducible refine A_z H ?_) ; (clear H; intro u H hu)) | ((with_reducible refine A_m ?_ ?_) ; omega) | ((with_reducible apply A_q 0 H) ; rfl; rfl; rfl) | ((with_reducible apply A_i 0 H) ; rfl; rfl; rfl; omega; rfl; (clear H; intro u H hu; (try dsimp only [List.set_cons_zero, List.set_cons_succ, A_b, List.toList_toArray, splice, ev, rep, List.cons_append, List.nil_append] at H))))
  rw [← tk]
  exact ih (n - 1) (by omega) (i + 1) _ _ m _ (by omega) H.tail
 ·rw [List.take_of_length_le (by omega)]
  exact A_u H rfl ⟨rfl, rfl⟩
def Nd.needs (d : Nd) : Nat := if d.ty = 2 then d.sz else if d.ty = 1 ∨ d.ty = 3 then d.sz / 64 + min (d.sz % 64) 1 else 0
def CNeeds (R : RnK) : Prop := ∀ (d : Nd) (a : Option Addr) (c : Nat) (h : Hs), d.Mod → R 89 [d.v a c] h = some (.val (.int .i64 (.ofNat d.needs)) h)
theorem b_t {R : RnK} {N : Nat} {d : Nd} {a : Option Addr} {c : Nat} {h : Hs} (dm : d.Mod) : r89 R N [d.v a c] h = some (.val (.int .i64 (.ofNat d.needs)) h) := by
 refine WP.eqn ?_
 unfold r89 Nd.v Nd.needs
 have H := Sto.enter h
 have m1 := dm.sz
 repeat' (first | (with_reducible first | refine w_jn ?_ | refine A_l ?_ | refine A_j ?_ | refine A_0 ?_ | refine A_3 ?_ | refine A_e ?_ | refine M_z ?_) | ((with_reducible refine A_8 H ?_) ; (clear H; intro u H hu)) | ((with_reducible first | refine A_r (fun _ => ?_) (fun _ => ?_) | refine B_p (fun _ => ?_) (fun _ => ?_)) <;> first | (exfalso; omega) | skip) | ((with_reducible first | refine A_m ?_ ?_ | refine F_8 ?_ ?_) ; omega) | ((with_reducible refine D_s ?_ ?_ ?_) ; omega; omega) | ((with_reducible apply A_q 0 H) ; rfl; rfl; rfl))
 all_goals (refine A_u H rfl ⟨?_, rfl⟩; congr 2; clear H; (repeat' split) <;> omega)
def Nd.sizedP (d : Nd) (g : Geo) : Prop := if d.ty = 1 then d.sz ≤ 4096 else if d.ty = 2 then d.sz ≤ min g.b 4096 else 1 ≤ d.sz ∧ d.sz ≤ 400
instance (d : Nd) (g : Geo) : Decidable (d.sizedP g) := inferInstanceAs (Decidable (if d.ty = 1 then _ else if d.ty = 2 then _ else _ ∧ _))
def CSized (R : RnK) : Prop := ∀ (g : Geo) (d : Nd) (a : Option Addr) (c : Nat) (h : Hs), d.Mod → R 86 [g.v, d.v a c] h = some (.val (.bool (decide (d.sizedP g))) h)
theorem e_g {R : RnK} {N : Nat} (ci : CNin R) {g : Geo} {d : Nd} {a : Option Addr} {c : Nat} {h : Hs} (dm : d.Mod) : r86 R N [g.v, d.v a c] h = some (.val (.bool (decide (d.sizedP g))) h) := by
 refine WP.eqn ?_
 unfold r86 Nd.v Geo.v
 have H := Sto.enter h
 have m1 := dm.sz
 repeat' (first | (refine A_n (ci.nat _ _ _ _) ?_) | (with_reducible first | refine w_jn ?_ | refine A_l ?_ | refine A_j ?_ | refine A_0 ?_ | refine A_3 ?_ | refine A_e ?_ | refine M_z ?_) | ((with_reducible refine A_8 H ?_) ; (clear H; intro u H hu)) | ((with_reducible refine B_p (fun _ => ?_) (fun _ => ?_)) <;> first | (exfalso; omega) | skip) | ((with_reducible apply A_q 0 H) ; rfl; rfl; rfl) | ((with_reducible apply A_q 1 H) ; rfl; rfl; rfl))
 all_goals (refine A_u H rfl ⟨congrArg _ (decide_eq_decide.2 ?_), rfl⟩; clear H; unfold Nd.sizedP; (repeat' split) <;> omega)
def L_a (g : Geo) (r : Nat × Nat) : Prop := 1 ≤ r.2 ∧ g.dataAt ≤ r.1 ∧ r.1 + r.2 ≤ g.dataAt + g.dataN
def clash (r q : Nat × Nat) : Prop := r.1 < q.1 + q.2 ∧ q.1 < r.1 + r.2
instance (g : Geo) (r : Nat × Nat) : Decidable (L_a g r) := inferInstanceAs (Decidable (_ ∧ _ ∧ _))
instance (r q : Nat × Nat) : Decidable (clash r q) := inferInstanceAs (Decidable (_ ∧ _))
def F_3 (g : Geo) (l : List (Nat × Nat)) (k : Nat) : Prop := ∀ i, i < k → ∀ r, l[i]? = some r → L_a g r ∧ ∀ j, j < i → ∀ q, l[j]? = some q → ¬ clash r q
def Nd.placedP (d : Nd) (g : Geo) : Prop := d.ty = 2 ∧ d.rs = [(g.lostAt, g.n)] ∨ F_3 g d.rs d.rs.length
theorem M_5 {g : Geo} {l : List (Nat × Nat)} {i : Nat} (hi : i < l.length) (h : ¬ L_a g l[i]) : ¬ F_3 g l l.length := fun p => h (p i hi _ (List.getElem?_eq_getElem hi)).1
theorem K_p {g : Geo} {l : List (Nat × Nat)} {i j : Nat} (hi : i < l.length) (hj : j < i) (h : clash l[i] l[j]) : ¬ F_3 g l l.length := fun p => (p i hi _ (List.getElem?_eq_getElem hi)).2 j hj _ (List.getElem?_eq_getElem _) h
theorem M_1 {g : Geo} {l : List (Nat × Nat)} {i : Nat} (hi : i < l.length) (p : F_3 g l i) (h : L_a g l[i]) (q : ∀ j, (hj : j < i) → ¬ clash l[i] l[j]) : F_3 g l (i + 1) := fun k hk r hr => by
 by_cases e : k = i
 ·subst e
  rw [List.getElem?_eq_getElem hi] at hr
  injection hr with hr
  subst hr
  exact ⟨h, fun j hj x hx => by rw [List.getElem?_eq_getElem (by omega)] at hx; injection hx with hx; subst hx; exact q j hj⟩
 ·exact p k (by omega) r hr
def CPlaced (R : RnK) : Prop := ∀ (g : Geo) (d : Nd) (a : Option Addr) (c : Nat) (h : Hs), g.Ok → d.Mod → Rd h (.slice a d.rs.length c) 2 (Rl d.rs) → WP (R 87 [g.v, d.v a c] h) fun v h' => h' = h ∧ ∃ b, v = .bool b ∧ (b = true ↔ d.placedP g)
theorem Z_x {R : RnK} {N : Nat} (cl : CLost R) (ce : CEqR R) (cd : CDataF R) {g : Geo} {d : Nd} {a : Option Addr} {c : Nat} {h : Hs} (hN : 100000 < N) (x : g.Ok) (dm : d.Mod) (r : Rd h (.slice a d.rs.length c) 2 (Rl d.rs)) :
 WP (r87 R N [g.v, d.v a c] h) fun v h' => h' = h ∧ ∃ b, v = .bool b ∧ (b = true ↔ d.placedP g) := by
 unfold r87 Nd.v Geo.v
 have clg := cl g
 have cdg := cd g
 unfold Geo.v at clg cdg
 have H := Sto.enter1 r
 have l1 := D_9 d.rs
 have m1 := dm.rl
 have h1 := x.1.b2
 have h2 := x.1.n2
 have h3 := x.1.num
 have h4 := x.2
 have h5 : g.dataN = g.b - 1 - g.dataAt := rfl
 have h6 : g.lostAt = g.bitsAt + g.bitsN + g.n := rfl
 refine A_0 ?_
 refine A_0 ?_
 refine A_3 ?_
 refine A_8 H ?_
 clear H; intro u1 H hu1
 refine A_8 H ?_
 clear H; intro u2 H hu2
 repeat' (first | (refine A_n (clg _ x) ?_) | (refine A_n (cdg _ x) ?_) | (with_reducible first | refine w_jn ?_ | refine A_j ?_ | refine E_q ?_ | refine H_z ?_ | refine A_4 ?_ | refine A_e ?_ | refine C_s ?_) | ((with_reducible apply B_i) ; rfl) | ((with_reducible apply A_9) ; rfl; (try dsimp only [splice, ev, A_b, rep, List.cons_append, List.nil_append])) | ((with_reducible apply C_e H) ; rfl; (clear H; intro u H hu; (try dsimp only [List.set_cons_zero, List.set_cons_succ, A_b, List.toList_toArray, splice, ev, rep, List.cons_append, List.nil_append] at H))) | ((with_reducible refine B_p (fun _ => ?_) (fun _ => ?_)) <;> first | (exfalso; omega) | skip) | ((with_reducible apply A_q 0 H) ; rfl; rfl; rfl) | ((with_reducible apply A_f 1 H) ; rfl; rfl; rfl))
 refine B_a (ce d.rs [(g.lostAt, g.n)] _ _ _ (by omega) (H.rd 3 rfl) (H.rdU (Ls := Rl [(g.lostAt, g.n)]) (n := 1) (c := 1) 0 rfl rfl (L_n _) rfl (by omega))) (fun q => ?_) (fun q => ?_)
 ·repeat' (first | (with_reducible first | refine w_jn ?_ | refine A_l ?_ | refine A_5 ?_))
  exact A_u H rfl ⟨rfl, _, rfl, ⟨fun _ => .inl ⟨by omega, q⟩, fun _ => rfl⟩⟩
 replace H := H.tail
 repeat' (first | (refine A_n (cdg _ x) ?_) | (with_reducible first | refine w_jn ?_ | refine A_j ?_ | refine A_5 ?_ | refine A_e ?_ | refine C_s ?_) | ((with_reducible apply B_i) ; rfl) | ((with_reducible apply A_q 0 H) ; rfl; rfl; rfl) | ((with_reducible apply A_f 1 H) ; rfl; rfl; rfl))
 all_goals
  have np : ¬ (d.ty = 2 ∧ d.rs = [(g.lostAt, g.n)]) := by first | exact fun z => q z.2 | exact fun z => by omega
  obtain ⟨m0, hm0, H0⟩ : ∃ m0, m0 = _ ∧ Sto h [] _ m0 := ⟨_, rfl, H⟩
  refine C_d (Good := fun n (self : L12) => ∀ (i : Nat) (y1 y2 y3 y4 y5 y6 y7 y8 y9 y10 y11 : Value) (w : Hs), i + n = d.rs.length → F_3 g d.rs i → Sto h [] w m0 → WP (self (.int .i64 (.ofNat i)) y1 y2 y3 y4 y5 y6 y7 y8 y9 y10 y11 w) (fun v h' => h' = h ∧ ∃ b, v = .bool b ∧ (b = true ↔ d.placedP g))) (fun n self ih i y1 y2 y3 y4 y5 y6 y7 y8 y9 y10 y11 w hi hq H1 => ?_) N d.rs.length (by omega) 0 _ _ _ _ _ _ _ _ _ _ _ _ (by omega) (fun i hi => by omega) (by rw [hm0]; exact H)
  clear H H0
  have hm1 := hm0
  rw [hm0] at H1
  have H := H1
  clear H1
  repeat' (first | (with_reducible first | refine w_jn ?_ | refine A_l ?_ | refine A_j ?_) | ((with_reducible refine A_r (fun _ => ?_) (fun _ => ?_)) <;> first | (exfalso; omega) | skip))
  ·have ii : i < d.rs.length := by omega
   refine w_at 2 H rfl (G_i ii) rfl rfl ?_
   have rb := dm.rs _ (List.getElem_mem ii)
   have bad : ¬ L_a g d.rs[i] → ¬ d.placedP g := fun z p => p.elim np (M_5 ii z)
   have no : ∀ z : ¬ d.placedP g, (false = true ↔ d.placedP g) := fun z => ⟨fun y => (by cases y), fun y => absurd y z⟩
   repeat' (first | (with_reducible first | refine w_jn ?_ | refine A_l ?_ | refine A_j ?_ | refine G_d ?_ | refine C_3 ?_ | refine A_5 ?_ | refine A_4 ?_ | refine A_e ?_) | ((with_reducible refine A_z H ?_) ; (clear H; intro u H hu)) | ((with_reducible first | refine A_r (fun _ => ?_) (fun _ => ?_) | refine E_8 (fun _ => ?_) (fun _ => ?_) | refine D_2 (fun _ => ?_) (fun _ => ?_)) <;> first | (exfalso; omega) | skip) | ((with_reducible refine C_n ?_ ?_ ?_) ; omega; omega) | ((with_reducible apply A_q 0 H) ; rfl; rfl; rfl) | ((with_reducible apply A_i 0 H) ; rfl; rfl; rfl; omega; rfl; (clear H; intro u H hu; (try dsimp only [List.set_cons_zero, List.set_cons_succ, A_b, List.toList_toArray, splice, ev, rep, List.cons_append, List.nil_append] at H))) | ((with_reducible apply A_q 1 H) ; rfl; rfl; rfl))
   ·exact A_u H rfl ⟨rfl, _, rfl, no (bad fun q => by have := q.1; omega)⟩
   ·exact A_u H rfl ⟨rfl, _, rfl, no (bad fun q => by have := q.2.1; omega)⟩
   ·exact A_u H rfl ⟨rfl, _, rfl, no (bad fun q => by have := q.1; have := q.2.2; omega)⟩
   ·exact A_u H rfl ⟨rfl, _, rfl, no (bad fun q => by have := q.2.2; omega)⟩
   ·have good : L_a g d.rs[i] := ⟨by omega, by omega, by omega⟩
    refine k_x 3 H rfl (by omega) fun s H1 => ?_
    clear H
    have H := H1
    clear H1
    have rt : (Rl d.rs).take i = Rl (d.rs.take i) := by unfold Rl; rw [List.map_take]
    have l3 : (d.rs.take i).length = i := by rw [List.length_take]; omega
    rw [rt] at H
    obtain ⟨aS, cs, rfl⟩ := (H.rd 0 rfl).1.formN (D_9 (d.rs.take i))
    have l2 := D_9 (d.rs.take i)
    repeat' (first | (with_reducible first | refine w_jn ?_ | refine C_s ?_))
    obtain ⟨k0, hk0, K0⟩ : ∃ k0, k0 = _ ∧ Sto h [] _ k0 := ⟨_, rfl, H⟩
    refine C_d (Good := fun n2 (self2 : L5) => ∀ (j : Nat) (z1 z2 z3 z4 : Value) (w2 : Hs), j + n2 = i → (∀ k, (hk : k < j) → (hj : j ≤ i) → ¬ clash d.rs[i] d.rs[k]) → Sto h [] w2 k0 → WP (self2 (.int .i64 (.ofNat j)) z1 z2 z3 z4 w2) (fun v h' => h' = h ∧ ∃ b, v = .bool b ∧ (b = true ↔ d.placedP g))) (fun n2 self2 ih2 j z1 z2 z3 z4 w2 hj hq2 H2 => ?_) N i (by omega) 0 _ _ _ _ _ (by omega) (fun k hk => by omega) (by rw [hk0]; exact H)
    clear H K0
    have hk1 := hk0
    rw [hk0] at H2
    have H := H2
    clear H2
    repeat' (first | (with_reducible first | refine w_jn ?_ | refine A_l ?_ | refine A_j ?_) | ((with_reducible refine A_r (fun _ => ?_) (fun _ => ?_)) <;> first | (exfalso; omega) | skip) | ((with_reducible refine A_m ?_ ?_) ; omega))
    ·have jj : j < (d.rs.take i).length := by omega
     have ge : (d.rs.take i)[j] = d.rs[j] := List.getElem_take
     refine w_at 0 H rfl (G_i jj) rfl rfl ?_
     rw [ge]
     have rb2 := dm.rs d.rs[j] (List.getElem_mem _)
     repeat' (first | (with_reducible first | refine w_jn ?_ | refine A_l ?_ | refine A_j ?_ | refine E_q ?_ | refine H_z ?_ | refine A_5 ?_ | refine A_4 ?_ | refine A_e ?_) | ((with_reducible refine A_z H ?_) ; (clear H; intro u H hu)) | ((with_reducible refine A_r (fun _ => ?_) (fun _ => ?_)) <;> first | (exfalso; omega) | skip) | ((with_reducible refine A_m ?_ ?_) ; omega) | ((with_reducible apply A_q 0 H) ; rfl; rfl; rfl) | ((with_reducible apply A_i 0 H) ; rfl; rfl; rfl; omega; rfl; (clear H; intro u H hu; (try dsimp only [List.set_cons_zero, List.set_cons_succ, A_b, List.toList_toArray, splice, ev, rep, List.cons_append, List.nil_append] at H))) | ((with_reducible apply A_q 2 H) ; rfl; rfl; rfl))
     ·exact A_u H rfl ⟨rfl, _, rfl, no fun p => p.elim np (K_p ii (j := j) (by omega) ⟨by omega, by omega⟩)⟩
     ·refine ih2 (n2 - 1) (by omega) (j + 1) _ _ _ _ _ (by omega) (fun k hk _ => ?_) (by rw [hk1]; exact H.tail)
      by_cases e : k = j
      ·subst e; exact fun z => by have := z.1; have := z.2; omega
      ·exact hq2 k (by omega) (by omega)
     ·refine ih2 (n2 - 1) (by omega) (j + 1) _ _ _ _ _ (by omega) (fun k hk _ => ?_) (by rw [hk1]; exact H.tail)
      by_cases e : k = j
      ·subst e; exact fun z => by have := z.1; have := z.2; omega
      ·exact hq2 k (by omega) (by omega)
    ·refine ih (n - 1) (by omega) (i + 1) _ _ _ _ _ _ _ _ _ _ _ _ (by omega) (M_1 ii hq good fun k hk => hq2 k (by omega) (by omega)) (by rw [hm1]; exact H.tail.tail)
  ·refine A_u H rfl ⟨rfl, _, rfl, ⟨fun _ => .inr ?_, fun _ => rfl⟩⟩
   rw [show i = d.rs.length by omega] at hq
   exact hq
def Nd.good (d : Nd) (g : Geo) : Prop := if d.ty = 0 then d.free else 1 ≤ d.ty ∧ d.ty ≤ 3 ∧ 1 ≤ d.ln ∧ d.ln ≤ 200 ∧ d.sizedP g ∧ d.rs.length ≤ 4 ∧ d.placedP g ∧ sumR d.rs = d.needs
def CNodeGood (R : RnK) : Prop := ∀ (g : Geo) (d : Nd) (a : Option Addr) (c : Nat) (h : Hs), g.Ok → d.Mod → Rd h (.slice a d.rs.length c) 2 (Rl d.rs) → WP (R 66 [g.v, d.v a c] h) fun v h' => h' = h ∧ ∃ b, v = .bool b ∧ (b = true ↔ d.good g)
theorem P_q {R : RnK} {N : Nat} (cg : CGood R) (ci : CNin R) (cf : CFree R) (cz : CSized R) (cp : CPlaced R) (cb : CBlocks R) (cn : CNeeds R) {g : Geo} {d : Nd} {a : Option Addr} {c : Nat} {h : Hs} (hN : 100000 < N) (x : g.Ok) (dm : d.Mod) (r : Rd h (.slice a d.rs.length c) 2 (Rl d.rs)) :
 WP (r66 R N [g.v, d.v a c] h) fun v h' => h' = h ∧ ∃ b, v = .bool b ∧ (b = true ↔ d.good g) := by
 have cgg := cg g
 have cff := fun u => cf d a c u (by have := dm.rl; omega)
 have czg := fun u => cz g d a c u dm
 have cpg := fun u => cp g d a c u x dm
 have cbg := fun u => cb d a c u dm
 have cng := fun u => cn d a c u dm
 unfold r66 Nd.v Geo.v
 unfold Nd.v at cff czg cpg cbg cng
 unfold Geo.v at cgg czg cpg
 have H := Sto.enter1 r
 have l1 := D_9 d.rs
 have m1 := dm.rl
 have g0 : d.ty = 0 → (d.good g ↔ d.free) := fun z => by unfold Nd.good; rw [if_pos z]
 have g1 : ¬ d.ty = 0 → (d.good g ↔ 1 ≤ d.ty ∧ d.ty ≤ 3 ∧ 1 ≤ d.ln ∧ d.ln ≤ 200 ∧ d.sizedP g ∧ d.rs.length ≤ 4 ∧ d.placedP g ∧ sumR d.rs = d.needs) := fun z => by unfold Nd.good; rw [if_neg z]
 repeat' (first | ((refine B_a (cgg _) (fun _ => ?_) (fun _ => ?_)) <;> first | (exfalso; omega) | skip) | ((refine B_a (ci.nat _ _ _ _) (fun _ => ?_) (fun _ => ?_)) <;> first | (exfalso; omega) | skip) | ((refine B_a (czg _) (fun _ => ?_) (fun _ => ?_)) <;> first | (exfalso; omega) | skip) | (with_reducible first | refine w_jn ?_ | refine A_l ?_ | refine A_j ?_ | refine E_q ?_ | refine H_z ?_ | refine G_d ?_ | refine C_3 ?_ | refine A_5 ?_ | refine A_4 ?_ | refine B_k ?_ | refine B_u ?_ | refine A_0 ?_ | refine A_3 ?_ | refine A_e ?_ | refine C_s ?_ | refine C_z ?_) | ((with_reducible refine A_8 H ?_) ; (clear H; intro u H hu)) | ((with_reducible first | refine M_x (fun _ => ?_) (fun _ => ?_) | refine B_p (fun _ => ?_) (fun _ => ?_)) <;> first | (exfalso; omega) | skip) | ((with_reducible apply A_q 0 H) ; rfl; rfl; rfl) | ((with_reducible apply A_f 0 H) ; rfl; rfl; rfl) | ((with_reducible apply A_f 1 H) ; rfl; rfl; rfl))
 ·refine A_n (cff _) ?_
  exact A_u H rfl ⟨rfl, _, rfl, by rw [g0 (by assumption)]; exact decide_eq_true_iff⟩
 ·refine A_1 (cpg _ (H.rd 2 rfl)) fun v w hv => ?_
  obtain ⟨rfl, b, rfl, hb⟩ := hv
  refine E_0 (Nat.le_refl _) ?_
  cases b
  ·repeat' (first | (with_reducible first | refine H_z ?_ | refine A_5 ?_ | refine A_4 ?_ | refine C_z ?_))
   exact A_u H rfl ⟨rfl, _, rfl, ⟨fun z => (by cases z), fun z => hb.2 ((g1 (by assumption)).1 z).2.2.2.2.2.2.1⟩⟩
  ·have hp := hb.1 rfl
   repeat' (first | (with_reducible first | refine E_q ?_ | refine A_5 ?_ | refine C_z ?_) | ((with_reducible apply A_f 0 H) ; rfl; rfl; rfl))
   refine A_n (cbg ⟨w.hp, w.nx, w.nx⟩ (Rd.lo (H.rd 2 rfl) _)) ?_
   have sr := X_i dm.rs
   refine C_9 ?_
   repeat' (first | (refine A_n (cng _) ?_) | (with_reducible first | refine E_q ?_ | refine A_5 ?_ | refine C_z ?_) | ((with_reducible refine E_0 ?_ ?_) ; omega) | ((with_reducible refine B_p (fun _ => ?_) (fun _ => ?_)) <;> first | (exfalso; omega) | skip) | ((with_reducible apply M_r 0 H) ; rfl; rfl; (intro _; simp only [HidOk, and_true]; omega)))
   have nd : d.needs ≤ 1099511627776 := by have := dm.sz; unfold Nd.needs; (repeat' split) <;> omega
   skip
   ·exact A_u H rfl ⟨rfl, _, rfl, ⟨fun _ => (g1 (by assumption)).2 ⟨by omega, by omega, by omega, by omega, by assumption, by omega, hp, by omega⟩, fun _ => rfl⟩⟩
   ·exact A_u H rfl ⟨rfl, _, rfl, ⟨fun z => (by cases z), fun z => by have := ((g1 (by assumption)).1 z).2.2.2.2.2.2.2; omega⟩⟩
 ·exact A_u H rfl ⟨rfl, _, rfl, ⟨fun z => (by cases z), fun z => by have := ((g1 (by assumption)).1 z); omega⟩⟩
 ·exact A_u H rfl ⟨rfl, _, rfl, ⟨fun z => (by cases z), fun z => absurd ((g1 (by assumption)).1 z).2.2.2.2.1 (by assumption)⟩⟩
 ·exact A_u H rfl ⟨rfl, _, rfl, ⟨fun z => (by cases z), fun z => by have := ((g1 (by assumption)).1 z); omega⟩⟩
 ·exact A_u H rfl ⟨rfl, _, rfl, ⟨fun z => (by cases z), fun z => by have := ((g1 (by assumption)).1 z); omega⟩⟩
 ·exact absurd x (by assumption)
theorem F_h {l : List Nat} {d : Nd} (h : C_0 l = some d) : d.fits ∧ B_x d = l := by
 unfold C_0 at h
 split at h
 ·split at h
  ·rename_i q
   injection h with h
   subst h
   exact ⟨q.2.2.1, q.2.2.2⟩
  ·cases h
 ·cases h
theorem R_o {d : Nd} (h : d.fits) : d.Mod := by
 unfold Nd.fits at h
 split at h
 ·obtain ⟨a, b, c, e⟩ := h
  exact ⟨by omega, by omega, by omega, by rw [e]; simp, by rw [e]; intro r hr; cases hr⟩
 ·obtain ⟨a, b, c, e, f⟩ := h
  exact ⟨by omega, by omega, by omega, by omega, fun r hr => by have := E_t (List.all_eq_true.1 f r hr); omega⟩
def INode (g : Geo) (l : List Nat) (i : Nat) (d : Nd) : Prop := 1 ≤ i ∧ i ≤ g.n ∧ C_0 (B_s l (g.nodeAt i)) = some d ∧ d.good g
def CImgNode (R : RnK) : Prop := ∀ (g : Geo) (l : List Nat) (s : Value) (i : Nat) (h : Hs), g.Ok → l.length = 8 * g.b → Small l → Rd h s 1 (Wl l) → i ≤ 100000 →
 (∀ d, INode g l i d → WP (R 38 [imgV g s, .int .i64 (.ofNat i)] h) fun r h' => ∃ a c, r = .tuple #[d.v a c, .bool true] ∧ New h h' (OR (.slice a d.rs.length c) d.rs)) ∧
 ((∀ d, ¬ INode g l i d) → R 38 [imgV g s, .int .i64 (.ofNat i)] h = some (.val (.tuple #[nd0.v none 0, .bool false]) h))
theorem O_d {g : Geo} {i : Nat} (x : g.Ok) : 8 * g.nodeAt i + 8 ≤ 8 * g.b := by
 have h3 := x.1.num
 have h4 := x.2
 unfold Geo.nodeAt
 split <;> omega
theorem Small.block {l : List Nat} (h : Small l) (i : Nat) : Small (B_s l i) := fun x hx => h x (List.mem_of_mem_drop (List.mem_of_mem_take hx))
theorem U_a {R : RnK} {N : Nat} (cn : CNode R) (cb : CBlock R) (cg : CNodeGet R) (co : CNodeGood R) {g : Geo} {l : List Nat} {s : Value} {i : Nat} {h : Hs} {d : Nd} (x : g.Ok) (hl : l.length = 8 * g.b) (sm : Small l) (r : Rd h s 1 (Wl l)) (hi : i ≤ 100000) (hd : INode g l i d) :
 WP (r38 R N [imgV g s, .int .i64 (.ofNat i)] h) fun r h' => ∃ a c, r = .tuple #[d.v a c, .bool true] ∧ New h h' (OR (.slice a d.rs.length c) d.rs) := by
 have cng := cn g i
 have cbg := cb g l s (g.nodeAt i)
 have cog := co g
 unfold r38 imgV
 unfold imgV at cbg
 unfold Geo.v at cng cog
 have H := Sto.enter1 r
 have h1 := x.1.b2
 have h2 := x.1.num
 have h3 := x.2
 have h4 := O_d (i := i) x
 obtain ⟨i1, i2, hd, hg⟩ := hd
 have n0 : g.nodeAt i = g.bitsAt + g.bitsN + i - 1 := if_pos ⟨i1, i2⟩
 repeat' (first | (refine A_n (cng _ x hi) ?_) | (with_reducible first | refine w_jn ?_ | refine A_j ?_ | refine A_0 ?_ | refine A_3 ?_ | refine A_e ?_) | ((with_reducible refine A_8 H ?_) ; (clear H; intro u H hu)) | ((with_reducible refine A_z H ?_) ; (clear H; intro u H hu)) | ((with_reducible refine B_p (fun _ => ?_) (fun _ => ?_)) <;> first | (exfalso; omega) | skip) | ((with_reducible apply A_f 1 H) ; rfl; rfl; rfl) | ((with_reducible apply E_i 1 H) ; rfl; rfl; rfl; rfl; (try dsimp only [List.drop_zero, List.drop_succ_cons, List.take_succ_cons, List.take_zero])))
 refine A_1 (cbg _ (by omega) (H.rd 2 rfl) (by omega)) fun v u1 n1 => ?_
 have bl := G_m (l := l) (i := g.nodeAt i) (by omega)
 replace n1 := n1.ones
 rw [← B_n] at n1
 replace H := H.call n1
 refine A_1 (cg (B_s l (g.nodeAt i)) v _ (sm.block _) (by omega) (H.rd 0 rfl)) fun v2 u2 n2 => ?_
 unfold QGet at n2
 rw [hd] at n2
 obtain ⟨a, c, rfl, n2⟩ := n2
 replace H := H.call n2
 have dm := R_o (F_h hd).1
 unfold Nd.v
 repeat' (first | (with_reducible first | refine C_3 ?_ | refine B_k ?_ | refine A_e ?_) | ((with_reducible apply B_i) ; rfl) | ((with_reducible refine A_z H ?_) ; (clear H; intro u H hu)) | ((with_reducible apply A_i 0 H) ; rfl; rfl; rfl; omega; rfl; (clear H; intro u H hu; (try dsimp only [List.set_cons_zero, List.set_cons_succ, A_b, List.toList_toArray, splice, ev, rep, List.cons_append, List.nil_append] at H))) | ((with_reducible apply A_f 0 H) ; rfl; rfl; rfl) | ((with_reducible apply E_i 4 H) ; rfl; rfl; rfl; rfl; (try dsimp only [List.drop_zero, List.drop_succ_cons, List.take_succ_cons, List.take_zero])))
 refine A_1 (cog d a c _ x dm (H.rdOR 1 rfl)) fun v3 u3 hv => ?_
 obtain ⟨rfl, b, rfl, hb⟩ := hv
 obtain rfl := hb.2 hg
 repeat' (first | (with_reducible first | refine w_jn ?_ | refine A_j ?_ | refine C_3 ?_ | refine A_4 ?_ | refine B_k ?_) | ((with_reducible apply A_f 0 H) ; rfl; rfl; rfl) | ((with_reducible apply A_i 3 H) ; rfl; rfl; rfl; omega; rfl; (clear H; intro u H hu; (try dsimp only [List.set_cons_zero, List.set_cons_succ, A_b, List.toList_toArray, splice, ev, rep, List.cons_append, List.nil_append] at H))) | ((with_reducible apply B_9 3 H) ; rfl; rfl; rfl))
 exact I_b (fun v => .tuple #[.agg #[.int .i64 (.ofNat d.ty), .int .i64 (.ofNat d.ln), .int .i64 (.ofNat d.sz), v], .bool true]) 1 H rfl (fun _ _ _ => by simp [blkV, blkP, blkC]) (fun _ _ _ _ => rfl) fun v' h' n' => by
  obtain ⟨a', c', rfl⟩ := n'.2.1.form
  exact ⟨a', c', rfl, n'⟩
theorem T_b {R : RnK} {N : Nat} (cn : CNode R) (cb : CBlock R) (cg : CNodeGet R) (co : CNodeGood R) {g : Geo} {l : List Nat} {s : Value} {i : Nat} {h : Hs} (x : g.Ok) (hl : l.length = 8 * g.b) (sm : Small l) (r : Rd h s 1 (Wl l)) (hi : i ≤ 100000) (hd : ∀ d, ¬ INode g l i d) :
 r38 R N [imgV g s, .int .i64 (.ofNat i)] h = some (.val (.tuple #[nd0.v none 0, .bool false]) h) := by
 refine WP.eqn ?_
 have cng := cn g i
 have cbg := cb g l s (g.nodeAt i)
 have cog := co g
 unfold r38 imgV
 unfold imgV at cbg
 unfold Geo.v at cng cog
 have H := Sto.enter1 r
 have h1 := x.1.b2
 have h2 := x.1.num
 have h3 := x.2
 have h4 := O_d (i := i) x
 have n0 : (1 ≤ i ∧ i ≤ g.n) → g.nodeAt i = g.bitsAt + g.bitsN + i - 1 := fun z => if_pos z
 have n1 : ¬ (1 ≤ i ∧ i ≤ g.n) → g.nodeAt i = 0 := fun z => if_neg z
 repeat' (first | (refine A_n (cng _ x hi) ?_) | (with_reducible first | refine w_jn ?_ | refine A_l ?_ | refine A_j ?_ | refine A_0 ?_ | refine A_3 ?_ | refine A_e ?_) | ((with_reducible apply A_9) ; rfl; (try dsimp only [splice, ev, A_b, rep, List.cons_append, List.nil_append])) | ((with_reducible refine A_8 H ?_) ; (clear H; intro u H hu)) | ((with_reducible refine A_z H ?_) ; (clear H; intro u H hu)) | ((with_reducible refine B_p (fun _ => ?_) (fun _ => ?_)) <;> first | (exfalso; omega) | skip) | ((with_reducible apply A_i 0 H) ; rfl; rfl; rfl; omega; rfl; (clear H; intro u H hu; (try dsimp only [List.set_cons_zero, List.set_cons_succ, A_b, List.toList_toArray, splice, ev, rep, List.cons_append, List.nil_append] at H))) | ((with_reducible apply B_9 0 H) ; rfl; rfl; rfl) | ((with_reducible apply A_f 1 H) ; rfl; rfl; rfl) | ((with_reducible apply E_i 1 H) ; rfl; rfl; rfl; rfl; (try dsimp only [List.drop_zero, List.drop_succ_cons, List.take_succ_cons, List.take_zero])))
 ·exact A_u H rfl ⟨rfl, rfl⟩
 ·have ir : 1 ≤ i ∧ i ≤ g.n := Decidable.byContradiction fun z => by have := n1 z; omega
  refine A_1 (cbg _ (by omega) (H.rd 2 rfl) (by omega)) fun v u1 n1 => ?_
  have bl := G_m (l := l) (i := g.nodeAt i) (by omega)
  replace n1 := n1.ones
  rw [← B_n] at n1
  replace H := H.call n1
  refine A_1 (cg (B_s l (g.nodeAt i)) v _ (sm.block _) (by omega) (H.rd 0 rfl)) fun v2 u2 n2 => ?_
  unfold QGet at n2
  cases hd2 : C_0 (B_s l (g.nodeAt i)) with
  | none =>
   rw [hd2] at n2
   obtain ⟨rfl, rfl⟩ := n2
   unfold Nd.v nd0
   repeat' (first | (with_reducible first | refine w_jn ?_ | refine A_l ?_ | refine G_d ?_ | refine A_5 ?_ | refine B_u ?_) | ((with_reducible apply B_i) ; rfl) | ((with_reducible apply A_9) ; rfl; (try dsimp only [splice, ev, A_b, rep, List.cons_append, List.nil_append])) | ((with_reducible refine A_z H ?_) ; (clear H; intro u H hu)) | ((with_reducible apply A_i 0 H) ; rfl; rfl; rfl; omega; rfl; (clear H; intro u H hu; (try dsimp only [List.set_cons_zero, List.set_cons_succ, A_b, List.toList_toArray, splice, ev, rep, List.cons_append, List.nil_append] at H))) | ((with_reducible apply A_i 2 H) ; rfl; rfl; rfl; omega; rfl; (clear H; intro u H hu; (try dsimp only [List.set_cons_zero, List.set_cons_succ, A_b, List.toList_toArray, splice, ev, rep, List.cons_append, List.nil_append] at H))) | ((with_reducible apply B_9 2 H) ; rfl; rfl; rfl))
   exact A_u H rfl ⟨rfl, rfl⟩
  | some d =>
   rw [hd2] at n2
   obtain ⟨a, c, rfl, n2⟩ := n2
   replace H := H.call n2
   have dm := R_o (F_h hd2).1
   unfold Nd.v
   repeat' (first | (with_reducible first | refine C_3 ?_ | refine B_k ?_ | refine A_e ?_) | ((with_reducible apply B_i) ; rfl) | ((with_reducible refine A_z H ?_) ; (clear H; intro u H hu)) | ((with_reducible apply A_i 0 H) ; rfl; rfl; rfl; omega; rfl; (clear H; intro u H hu; (try dsimp only [List.set_cons_zero, List.set_cons_succ, A_b, List.toList_toArray, splice, ev, rep, List.cons_append, List.nil_append] at H))) | ((with_reducible apply A_f 0 H) ; rfl; rfl; rfl) | ((with_reducible apply E_i 4 H) ; rfl; rfl; rfl; rfl; (try dsimp only [List.drop_zero, List.drop_succ_cons, List.take_succ_cons, List.take_zero])))
   refine A_1 (cog d a c _ x dm (H.rdOR 1 rfl)) fun v3 u3 hv => ?_
   obtain ⟨rfl, b, rfl, hb⟩ := hv
   cases b with
   | true => exact absurd ⟨ir.1, ir.2, hd2, hb.1 rfl⟩ (hd d)
   | false =>
    repeat' (first | (with_reducible first | refine w_jn ?_ | refine A_l ?_ | refine C_3 ?_ | refine A_4 ?_ | refine B_u ?_) | ((with_reducible apply A_9) ; rfl; (try dsimp only [splice, ev, A_b, rep, List.cons_append, List.nil_append])) | ((with_reducible apply A_i 3 H) ; rfl; rfl; rfl; omega; rfl; (clear H; intro u H hu; (try dsimp only [List.set_cons_zero, List.set_cons_succ, A_b, List.toList_toArray, splice, ev, rep, List.cons_append, List.nil_append] at H))) | ((with_reducible apply B_9 3 H) ; rfl; rfl; rfl))
    exact A_u H rfl ⟨rfl, rfl⟩
set_option linter.unusedSimpArgs false
theorem I_u {W ws : List Nat} {o i : Nat} (h : o + ws.length ≤ W.length) : (putW W o ws).getD i 0 = if o ≤ i ∧ i < o + ws.length then ws.getD (i - o) 0 else W.getD i 0 := by
 simp only [List.getD_eq_getElem?_getD]
 congr 1
 unfold putW
 have e1 : (W.take o).length = o := by rw [List.length_take]; omega
 by_cases h1 : i < o
 ·rw [if_neg (by omega), List.append_assoc, List.getElem?_append_left (by omega), List.getElem?_take, if_pos h1]
 ·by_cases h2 : i < o + ws.length
  ·rw [if_pos ⟨by omega, h2⟩, List.append_assoc, List.getElem?_append_right (by omega), e1, List.getElem?_append_left (by omega)]
  ·rw [if_neg (by omega), List.getElem?_append_right (by rw [List.length_append, e1]; omega), List.length_append, e1, List.getElem?_drop, show o + ws.length + (i - (o + ws.length)) = i by omega]
theorem L_8 {a b : List Nat} (h : a.length = b.length) (g : ∀ i, i < a.length → a.getD i 0 = b.getD i 0) : a = b := by
 refine List.ext_getElem h fun i h1 h2 => ?_
 have := g i h1
 rw [List.getD_eq_getElem?_getD, List.getD_eq_getElem?_getD, List.getElem?_eq_getElem h1, List.getElem?_eq_getElem h2] at this
 exact this
theorem L_2 (W : List Nat) (o n j : Nat) (hj : j < n) : ((W.drop o).take n).getD j 0 = W.getD (o + j) 0 := by
 simp only [List.getD_eq_getElem?_getD]
 rw [List.getElem?_take, if_pos hj, List.getElem?_drop]
theorem i_2 {W ws : List Nat} {o : Nat} (h : o + ws.length ≤ W.length) : ((putW W o ws).drop o).take ws.length = ws := by
 refine L_8 (by rw [List.length_take, List.length_drop, B_b h]; omega) fun i hi => ?_
 rw [List.length_take, List.length_drop, B_b h] at hi
 rw [L_2 _ _ _ _ (by omega), I_u h, if_pos ⟨by omega, by omega⟩]
 congr 1; omega
theorem h_x {W ws : List Nat} {o p n : Nat} (h : o + ws.length ≤ W.length) (hp : p + n ≤ W.length) (d : p + n ≤ o ∨ o + ws.length ≤ p) : ((putW W o ws).drop p).take n = (W.drop p).take n := by
 refine L_8 (by rw [List.length_take, List.length_drop, B_b h, List.length_take, List.length_drop]) fun i hi => ?_
 rw [List.length_take, List.length_drop, B_b h] at hi
 rw [L_2 _ _ _ _ (by omega), L_2 _ _ _ _ (by omega), I_u h, if_neg (by omega)]
theorem J_a {W ws : List Nat} {a : Nat} (hw : ws.length = 8) (h : 8 * a + 8 ≤ W.length) : B_s (putW W (8 * a) ws) a = ws := by
 have := i_2 (W := W) (ws := ws) (o := 8 * a) (by omega)
 rw [hw] at this
 exact this
theorem D_q {W ws : List Nat} {a o : Nat} (h : o + ws.length ≤ W.length) (h2 : 8 * a + 8 ≤ W.length) (d : 8 * a + 8 ≤ o ∨ o + ws.length ≤ 8 * a) : B_s (putW W o ws) a = B_s W a := h_x h h2 d
theorem Y_n {r : Nat × Nat} (h : B_t r = true) : decR (runW r) = r ∧ runW r ≠ 0 := by
 obtain ⟨a, b⟩ := r
 have f := E_t h
 simp only at f
 have e1 : b * 4294967296 % 18446744073709551616 = b * 4294967296 := Nat.mod_eq_of_lt (by omega)
 have e2 : runW (a, b) = a + b * 4294967296 := by
  unfold runW
  simp only
  rw [e1, Nat.or_comm, show b * 4294967296 = 2 ^ 32 * b by omega, ← Nat.two_pow_add_eq_or_of_lt (show a < 2 ^ 32 by omega)]; omega
 refine ⟨?_, by omega⟩
 unfold decR
 rw [e2]
 have e3 : (a + b * 4294967296) &&& 4294967295 = a := by
  rw [show 4294967295 = 2 ^ 32 - 1 by decide, Nat.and_two_pow_sub_one_eq_mod]; omega
 rw [e3]
 congr 1
 omega
theorem S_3 (l : List (Nat × Nat)) (z : List Nat) (h : ∀ r ∈ l, B_t r = true) (hz : ∀ x ∈ z, x = 0) : F_e (l.map runW ++ z) = l := by
 unfold F_e
 induction l with
 | nil =>
  cases z with
  | nil => rfl
  | cons x z => rw [hz x List.mem_cons_self]; rfl
 | cons r l ih =>
  have f := Y_n (h r List.mem_cons_self)
  rw [List.map_cons, List.cons_append, List.takeWhile_cons_of_pos (by simp [f.2]), List.map_cons, f.1, ih fun r hr => h r (List.mem_cons_of_mem _ hr)]
theorem G_w {d : Nd} (h : d.fits) : C_0 (B_x d) = some d := by
 have hf := h
 unfold Nd.fits at h
 by_cases z : d.ty = 0
 ·rw [if_pos z] at h
  obtain ⟨h1, h2, h3, h4⟩ := h
  obtain ⟨a, b, c, e⟩ := d
  simp only at h1 h2 h3 h4
  subst h1; subst h2; subst h3; subst h4
  have : B_x ⟨0, 0, 0, []⟩ = [0, 0, 0, 0, 0, 0, 0, 0] := rfl
  rw [this]
  have q : (0 : Nat) / 2 ^ 32 = 0 ∧ (0 : Nat) ≤ 1099511627776 ∧ (decN 0 0 [0, 0, 0, 0]).fits ∧ B_x (decN 0 0 [0, 0, 0, 0]) = [0, 0, 0, 0, 0, 0, 0, 0] := ⟨rfl, by decide, by decide, rfl⟩
  unfold C_0
  exact (if_pos q).trans rfl
 ·rw [if_neg z] at h
  obtain ⟨h1, h2, h3, h4, h5⟩ := h
  have e1 : d.ln * 256 % 18446744073709551616 = d.ln * 256 := Nat.mod_eq_of_lt (by omega)
  have e2 : (d.ty ||| d.ln * 256) = d.ty + d.ln * 256 := by
   rw [Nat.or_comm, show d.ln * 256 = 2 ^ 8 * d.ln by omega, ← Nat.two_pow_add_eq_or_of_lt (show d.ty < 2 ^ 8 by omega)]; omega
  have bl := H_b h4
  have e3 : ∃ r0 r1 r2 r3, d.body = [d.ty + d.ln * 256, d.sz, r0, r1, r2, r3, 0] ∧ F_e [r0, r1, r2, r3] = d.rs := by
   have hr : ∀ r ∈ d.rs, B_t r = true := List.all_eq_true.1 h5
   have db : d.body = [d.ty + d.ln * 256, d.sz] ++ (d.rs.map runW ++ List.replicate (4 - d.rs.length) 0) ++ [0] := by
    unfold Nd.body Nd.head
    rw [e1, e2, show 5 - d.rs.length = 4 - d.rs.length + 1 by omega, List.replicate_succ']
    simp only [List.append_assoc]
   have dr := S_3 d.rs (List.replicate (4 - d.rs.length) 0) hr (fun x hx => (List.mem_replicate.1 hx).2)
   have l4 : (d.rs.map runW ++ List.replicate (4 - d.rs.length) 0).length = 4 := by rw [List.length_append, List.length_map, List.length_replicate]; omega
   generalize d.rs.map runW ++ List.replicate (4 - d.rs.length) 0 = q at db dr l4
   match q, l4 with
   | [r0, r1, r2, r3], _ => exact ⟨r0, r1, r2, r3, db, dr⟩
  obtain ⟨r0, r1, r2, r3, e3, e4⟩ := e3
  have e5 : B_x d = [d.ty + d.ln * 256, d.sz, r0, r1, r2, r3, 0, D_k d.body] := by
   unfold B_x
   rw [if_neg z]
   rw [show d.body ++ [D_k d.body] = [d.ty + d.ln * 256, d.sz, r0, r1, r2, r3, 0] ++ [D_k d.body] from by rw [← e3]]
   rfl
  have e6 : decN (d.ty + d.ln * 256) d.sz [r0, r1, r2, r3] = d := by
   unfold decN
   rw [e4]
   have a1 : (d.ty + d.ln * 256) &&& 255 = d.ty := by
    rw [show 255 = 2 ^ 8 - 1 by decide, Nat.and_two_pow_sub_one_eq_mod]; omega
   have a2 : (d.ty + d.ln * 256) / 2 ^ 8 = d.ln := by omega
   rw [a1, a2]
  have e7 := e5
  rw [e5]
  unfold C_0
  simp only
  rw [e6, if_pos ⟨by omega, h3, hf, e7⟩]
theorem N_2 {d : Nd} {g : Geo} (x : g.Ok) (h : d.good g) : ∀ r ∈ d.rs, 1 ≤ r.2 ∧ r.1 + r.2 ≤ g.b := by
 intro r hr
 have h1 := x.1.num
 have h2 := x.2
 have h3 := x.1.n1
 have h5 : g.dataN = g.b - 1 - g.dataAt := rfl
 unfold Nd.good at h
 split at h
 ·rw [h.2.2.2] at hr; cases hr
 ·rcases h.2.2.2.2.2.2.1 with q | q
  ·rw [q.2, List.mem_singleton] at hr
   subst hr
   have h6 : g.lostAt = g.bitsAt + g.bitsN + g.n := rfl
   exact ⟨by show 1 ≤ g.n; omega, by show g.lostAt + g.n ≤ g.b; omega⟩
  ·obtain ⟨i, hi, rfl⟩ := List.getElem_of_mem hr
   have q := (q i hi _ (List.getElem?_eq_getElem hi)).1
   exact ⟨q.1, by have := q.2.2; omega⟩
theorem V_a {d : Nd} {g : Geo} (x : g.Ok) (h : d.good g) : d.fits := by
 have rs := N_2 x h
 have h1 := x.1.b2
 unfold Nd.good at h
 unfold Nd.fits
 split at h
 ·rename_i z; rw [if_pos z]; exact h
 ·rename_i z
  rw [if_neg z]
  obtain ⟨a, b, c, e, f, k, _, _⟩ := h
  refine ⟨b, by omega, ?_, k, List.all_eq_true.2 fun r hr => ?_⟩
  ·unfold Nd.sizedP at f
   (repeat' split at f) <;> omega
  ·have := rs r hr
   unfold B_t
   exact decide_eq_true ⟨by omega, by omega, by omega⟩
theorem R_t (g : Geo) : nd0.good g := by unfold Nd.good; rw [if_pos (show nd0.ty = 0 from rfl)]; exact ⟨rfl, rfl, rfl, rfl⟩
theorem b_w {d : Nd} (h : d.fits) : d.rs.length ≤ 4 := by
 unfold Nd.fits at h
 split at h
 ·rw [h.2.2.2]; simp
 ·exact h.2.2.2.1
theorem _root_.Go.Gev.New.rl {h h' : Hs} {v : Value} {l : List (Nat × Nat)} {fl : Bool} (n : New h h' (.osl v 60 2 fl l.length (Rc l))) : New h h' (.rsl v 2 (Rl l)) := by
 obtain ⟨n1, ⟨hl, o⟩, n3⟩ := n
 rcases o with ⟨rfl, hz⟩ | ⟨id, c, cs, sz, f, rfl, hc, hb, hf, hsz, hc'⟩
 ·obtain rfl : l = [] := List.eq_nil_of_length_eq_zero hz
  exact ⟨n1, (Rd.none _ _).1, fun b hb => by cases hb⟩
 ·refine ⟨n1, ⟨L_n l, .inr ⟨id, 0, c, cs, sz, _, 2, true, f, by rw [D_9], by rw [D_9]; exact hc, hb, .inr rfl, fun i j x hi hj => ?_⟩⟩, fun b hb => n3 b ?_⟩
  ·have hx := flatten_get (L_n l) i j hj
   rw [hi] at hx
   have : i < l.length := by have := (List.getElem?_eq_some_iff.1 hi).1; rwa [D_9] at this
   rw [Nat.zero_add, hc' _ (by rw [hl]; omega)]
   exact hx
  ·cases l with
   | nil => cases hb
   | cons x l => exact hb
def Cnt (l : List (Nat × Nat)) : Prop := ∀ r ∈ l, 1 ≤ r.2 ∧ r.2 ≤ 1073741824 ∧ r.1 ≤ 1073741824
theorem k_h {Q : Value → Hs → Prop} {h0 h : Hs} {S : List Nat} {m : List Th} (k : Nat) {hh : Hs} {v : Value} {l : List (Nat × Nat)} {i : Nat} {K : Value → An} (H : Sto h0 S h m) (hk : m[k]? = some (OR v l)) (hi : i < l.length) (hp : hh.hp = h.hp) (w : WP (K (.agg [Value.int .i64 (.ofNat l[i].1), .int .i64 (.ofNat l[i].2)].toArray)) Q) :
 WP (B_e 2 v (.int .i64 (.ofNat i)) (fun p => A_g 2 p hh K)) Q := by
 have rd := H.rdOR k hk
 have H2 := Sto.enterR h [.rsl v 2 (Rl l)] (fun t ht => by rw [List.mem_singleton.1 ht]; exact ⟨rfl, rd.1, fun b hb => rd.2 b hb⟩)
 exact w_at 0 H2 rfl (G_i hi) hp rfl w
def CCounts (R : RnK) : Prop := ∀ (l : List (Nat × Nat)) (v : Value) (h : Hs), Cnt l → l.length ≤ 1000 → Rd h v 2 (Rl l) → WP (R 90 [v] h) fun v' h' => New h h' (OR v' l)
theorem Z_g {R : RnK} {N : Nat} {l : List (Nat × Nat)} {v : Value} {h : Hs} (hN : 100000 < N) (hc : Cnt l) (hb : l.length ≤ 1000) (r : Rd h v 2 (Rl l)) : WP (r90 R N [v] h) fun v' h' => New h h' (OR v' l) := by
 unfold r90
 obtain ⟨a, c, rfl⟩ := r.1.formN (D_9 l)
 have H := Sto.enter1 r
 have l1 := D_9 l
 repeat' (first | (with_reducible first | refine w_jn ?_ | refine A_0 ?_ | refine A_3 ?_ | refine C_s ?_))
 replace H := H.nilS 60 2
 refine C_d (Good := fun n (self : L5) => ∀ (i : Nat) (y1 y2 y3 cur : Value) (m : List Th) (w : Hs), i + n = l.length → Sto h [] w (.osl cur 60 2 true i (Rc (l.take i)) :: .rsl (.slice a l.length c) 2 (Rl l) :: m) → WP (self (.int .i64 (.ofNat i)) y1 y2 y3 cur w) (fun v' h' => New h h' (OR v' l))) (fun n self ih i y1 y2 y3 cur m w hi H1 => ?_) N l.length (by omega) 0 _ _ _ _ [] _ (by omega) H
 clear H
 have H := H1
 clear H1
 obtain ⟨ac, cc, rfl⟩ := (show OwnSl w cur 60 2 _ _ _ from H.ok _ (List.mem_of_getElem? (i := 0) rfl)).form
 repeat' (first | (with_reducible first | refine w_jn ?_ | refine A_l ?_ | refine A_j ?_) | ((with_reducible refine A_r (fun _ => ?_) (fun _ => ?_)) <;> first | (exfalso; omega) | skip))
 ·have ii : i < l.length := by omega
  refine w_at 1 H rfl (G_i ii) rfl rfl ?_
  have rb := hc _ (List.getElem_mem ii)
  have tk : Rc (l.take (i + 1)) = Rc (l.take i) ++ [.int .i64 (.ofNat l[i].1), .int .i64 (.ofNat l[i].2)] := by
   rw [List.take_add_one, List.getElem?_eq_getElem ii]; exact W_w _ _
  repeat' (first | (with_reducible first | refine w_jn ?_ | refine A_l ?_ | refine E_q ?_ | refine A_5 ?_ | refine A_e ?_) | ((with_reducible refine A_z H ?_) ; (clear H; intro u H hu)) | ((with_reducible apply C_e H) ; rfl; (clear H; intro u H hu; (try dsimp only [List.set_cons_zero, List.set_cons_succ, A_b, List.toList_toArray, splice, ev, rep, List.cons_append, List.nil_append] at H))) | ((with_reducible first | refine M_x (fun _ => ?_) (fun _ => ?_) | refine D_2 (fun _ => ?_) (fun _ => ?_)) <;> first | (exfalso; omega) | skip) | ((with_reducible apply A_q 0 H) ; rfl; rfl; rfl) | ((with_reducible apply A_i 0 H) ; rfl; rfl; rfl; omega; rfl; (clear H; intro u H hu; (try dsimp only [List.set_cons_zero, List.set_cons_succ, A_b, List.toList_toArray, splice, ev, rep, List.cons_append, List.nil_append] at H))) | ((with_reducible apply A_f 0 H) ; rfl; rfl; rfl))
  refine D_u 2 0 H rfl rfl rfl rfl (by omega) (by omega) fun v3 u4 H4 hn4 => ?_
  clear H
  have H := H4.tail.tail
  clear H4
  dsimp only [List.set_cons_zero, List.set_cons_succ] at H
  rw [show (Rc (l.take i) ++ [Value.int .i64 (.ofNat l[i].1), .int .i64 (.ofNat l[i].2)]) = Rc (l.take (i + 1)) from tk.symm] at H
  repeat' (first | ((with_reducible refine A_m ?_ ?_) ; omega))
  exact ih (n - 1) (by omega) (i + 1) _ _ _ _ m _ (by omega) H
 ·obtain rfl : i = l.length := by omega
  rw [List.take_length] at H
  exact F_c 0 H rfl fun v' h' n => n
def E_1 : List (Nat × Nat) → Nat → Option Nat
 | [], _ => none
 | r :: l, i => if i < r.2 then some (r.1 + i) else E_1 l (i - r.2)
def CAt (R : RnK) : Prop := ∀ (l : List (Nat × Nat)) (i : Nat) (v : Value) (h : Hs), Cnt l → l.length ≤ 1000 → i ≤ 1099511627776 → Rd h v 2 (Rl l) → R 68 [v, .int .i64 (.ofNat i)] h = some (.val (.tuple #[.int .i64 (.ofNat ((E_1 l i).getD 0)), .bool (E_1 l i).isSome]) h)
theorem m_b {R : RnK} {N : Nat} (cc : CCounts R) {l : List (Nat × Nat)} {i : Nat} {v : Value} {h : Hs} (hN : 100000 < N) (hc : Cnt l) (hb : l.length ≤ 1000) (hi : i ≤ 1099511627776) (r : Rd h v 2 (Rl l)) : r68 R N [v, .int .i64 (.ofNat i)] h = some (.val (.tuple #[.int .i64 (.ofNat ((E_1 l i).getD 0)), .bool (E_1 l i).isSome]) h) := by
 refine WP.eqn ?_
 unfold r68
 have H := Sto.enter1 r
 have l1 := D_9 l
 repeat' (first | (with_reducible first | refine w_jn ?_ | refine A_j ?_ | refine A_0 ?_ | refine A_3 ?_) | ((with_reducible refine A_r (fun _ => ?_) (fun _ => ?_)) <;> first | (exfalso; omega) | skip))
 refine A_1 (cc l v _ hc hb (H.rd 0 rfl)) fun v1 u1 n1 => ?_
 obtain ⟨a, c, rfl⟩ := n1.2.1.form
 replace H := H.call n1
 repeat' (first | (with_reducible first | refine w_jn ?_ | refine C_s ?_))
 refine C_d (Good := fun n (self : L7) => ∀ (k j : Nat) (y2 y3 y4 y5 y6 : Value) (m : List Th) (w : Hs), k + n = l.length → j ≤ 1099511627776 → E_1 (l.drop k) j = E_1 l i → Sto h [] w (OR (.slice a l.length c) l :: m) → WP (self (.int .i64 (.ofNat j)) (.int .i64 (.ofNat k)) y2 y3 y4 y5 y6 w) (fun v' h' => v' = .tuple #[.int .i64 (.ofNat ((E_1 l i).getD 0)), .bool (E_1 l i).isSome] ∧ h' = h)) (fun n self ih k j y2 y3 y4 y5 y6 m w hk hj hq H1 => ?_) N l.length (by omega) 0 i _ _ _ _ _ _ _ (by omega) hi rfl H
 clear H
 have H := H1
 clear H1
 repeat' (first | (with_reducible first | refine w_jn ?_ | refine A_l ?_ | refine A_j ?_) | ((with_reducible refine A_r (fun _ => ?_) (fun _ => ?_)) <;> first | (exfalso; omega) | skip))
 ·have ii : k < l.length := by omega
  refine k_h 0 H rfl ii rfl ?_
  have rb := hc _ (List.getElem_mem ii)
  rw [List.drop_eq_getElem_cons ii] at hq
  rw [show E_1 (l[k] :: l.drop (k + 1)) j = if j < l[k].2 then some (l[k].1 + j) else E_1 (l.drop (k + 1)) (j - l[k].2) from rfl] at hq
  repeat' (first | (with_reducible first | refine w_jn ?_ | refine A_l ?_ | refine A_j ?_ | refine A_e ?_) | ((with_reducible refine A_z H ?_) ; (clear H; intro u H hu)) | ((with_reducible refine A_r (fun _ => ?_) (fun _ => ?_)) <;> first | (exfalso; omega) | skip) | ((with_reducible refine A_m ?_ ?_) ; omega) | ((with_reducible refine C_n ?_ ?_ ?_) ; omega; omega) | ((with_reducible apply A_q 0 H) ; rfl; rfl; rfl) | ((with_reducible apply A_i 0 H) ; rfl; rfl; rfl; omega; rfl; (clear H; intro u H hu; (try dsimp only [List.set_cons_zero, List.set_cons_succ, A_b, List.toList_toArray, splice, ev, rep, List.cons_append, List.nil_append] at H))))
  ·rw [if_pos (by assumption)] at hq
   rw [← hq]
   exact A_u H rfl ⟨rfl, rfl⟩
  ·rw [if_neg (by assumption)] at hq
   exact ih (n - 1) (by omega) (k + 1) (j - l[k].2) _ _ _ _ _ m _ (by omega) (by omega) hq H.tail
 ·rw [List.drop_of_length_le (by omega)] at hq
  rw [← hq]
  exact A_u H rfl ⟨rfl, rfl⟩
end Go.Proofs.YtdgcebfncbmbfaaGreatDoor.imageMakes

/- Contracts of functions, by the logic of residual programs. -/
import Derived.Test.YtdgcebfncbmbfaaGreatDoorImD
namespace Go.Proofs.YtdgcebfncbmbfaaGreatDoor.imageMakes
open Go Go.Gev
set_option linter.unusedVariables false
theorem G_6 {W ws : List Nat} {o k : Nat} (h : k ≤ o) (ho : o ≤ W.length) : (putW W o ws).take k = W.take k := by
 unfold putW
 have l1 : (W.take o).length = o := by rw [List.length_take]; omega
 rw [List.append_assoc, List.take_append_of_le_length (by omega), List.take_take, Nat.min_eq_left h]
theorem E_o {W ws : List Nat} {o : Nat} (h1 : Small W) (h2 : Small ws) : Small (putW W o ws) := fun n hn => by
 unfold putW at hn
 rcases List.mem_append.1 hn with hn | hn
 ·rcases List.mem_append.1 hn with hn | hn
  ·exact h1 n (List.mem_of_mem_take hn)
  ·exact h2 n hn
 ·exact h1 n (List.mem_of_mem_drop hn)
theorem O_o {g : Geo} (x : g.Ok) : Small (B_z g 0) := by
 intro n hn
 have h := G_y (ph := 0) x.1 (by omega)
 have : B_z g 0 = [5497010944029229057, g.b, g.n, g.c, g.k, 0] ++ [0, D_k [5497010944029229057, g.b, g.n, g.c, g.k, 0]] := rfl
 rw [this] at hn
 rcases List.mem_append.1 hn with hn | hn
 ·exact h n hn
 ·simp only [List.mem_cons, List.not_mem_nil, or_false] at hn
  rcases hn with rfl | rfl
  ·omega
  ·exact N_e h
theorem I_7 {d : Nd} (h0 : d.ty ≤ 3) (h1 : d.sz ≤ 1099511627776) (h2 : d.rs.all B_t = true) : Small (B_x d) := by
 unfold B_x; split
 ·intro n hn; rw [List.mem_replicate] at hn; omega
 ·intro n hn
  rcases List.mem_append.1 hn with hn | hn
  ·exact F_x h0 h1 h2 n hn
  ·have : n = D_k d.body := by simpa using hn
   rw [this]; exact N_e (F_x h0 h1 h2)
theorem U_5 {g : Geo} (x : g.Ok) : (C_x g).rs.all B_t = true := by
 have h1 := x.1.num
 have h2 := x.1.n1
 have h3 := x.1.n2
 show (B_t (g.lostAt, g.n) && true) = true
 rw [Bool.and_true]
 unfold B_t Geo.lostAt
 simp; omega
theorem G_r {g : Geo} (x : g.Ok) : (D_b g).length = 8 * g.b ∧ Small (D_b g) ∧ (D_b g).take 8 = B_z g 0 := by
 have h1 := x.1.b1; have h2 := x.1.b2; have h3 := x.1.n1; have h4 := x.1.n2
 have h5 := x.1.num
 have h6 := x.2
 have n1 : g.nodeAt 1 = g.bitsAt + g.bitsN := by unfold Geo.nodeAt; rw [if_pos (by omega)]; omega
 have n2 : g.nodeAt 2 = g.bitsAt + g.bitsN + 1 := by unfold Geo.nodeAt; rw [if_pos (by omega)]; omega
 have z1 : (B_x rootN).length = 8 := E_u
 have z2 : (B_x (C_x g)).length = 8 := E_s
 have z3 : (B_z g 0).length = 8 := rfl
 have z4 : (A_6 g g.b).length = (g.b + 63) / 64 := C_6
 have l0 : (List.replicate (8 * g.b) 0).length = 8 * g.b := List.length_replicate
 have l1 : (putW (List.replicate (8 * g.b) 0) 0 (B_z g 0)).length = 8 * g.b := by rw [B_b (by rw [l0]; omega), l0]
 have l2 : (putW (putW (List.replicate (8 * g.b) 0) 0 (B_z g 0)) (8 * (g.b - 1)) (B_z g 0)).length = 8 * g.b := by rw [B_b (by rw [l1]; omega), l1]
 have l3 : (putW (putW (putW (List.replicate (8 * g.b) 0) 0 (B_z g 0)) (8 * (g.b - 1)) (B_z g 0)) (8 * g.nodeAt 1) (B_x rootN)).length = 8 * g.b := by rw [B_b (by rw [l2]; omega), l2]
 have l4 : (putW (putW (putW (putW (List.replicate (8 * g.b) 0) 0 (B_z g 0)) (8 * (g.b - 1)) (B_z g 0)) (8 * g.nodeAt 1) (B_x rootN)) (8 * g.nodeAt 2) (B_x (C_x g))).length = 8 * g.b := by rw [B_b (by rw [l3]; omega), l3]
 have s0 : Small (List.replicate (8 * g.b) 0) := fun n hn => by rw [List.mem_replicate] at hn; omega
 refine ⟨?_, ?_, ?_⟩
 ·unfold D_b; rw [B_b (by rw [l4]; omega), l4]
 ·unfold D_b
  exact E_o (E_o (E_o (E_o (E_o s0 (O_o x)) (O_o x)) (I_7 (show 2 ≤ 3 by decide) (show 0 ≤ 1099511627776 by decide) rfl)) (I_7 (show 2 ≤ 3 by decide) (show g.n ≤ 1099511627776 by omega) (U_5 x))) G_e
 ·unfold D_b
  rw [G_6 (by omega) (by rw [l4]; omega), G_6 (by omega) (by rw [l3]; omega), G_6 (by omega) (by rw [l2]; omega), G_6 (by omega) (by rw [l1]; omega)]
  unfold putW
  rw [List.take_zero, List.nil_append, List.take_append_of_le_length (by rw [z3]; omega), List.take_of_length_le (by rw [z3]; omega)]
theorem Q_l {g : Geo} (x : g.Ok) : opened (D_b g) = some g := by
 obtain ⟨m1, m2, m3⟩ := G_r x
 have h1 := x.1.b1; have h2 := x.1.b2
 have : head1 (D_b g) = some (g, 0) := by
  unfold head1
  rw [if_pos ⟨by omega, by omega, by omega⟩, m3]
  unfold G_j
  rw [K_7 x rfl]
  show (if _ then _ else _) = _
  rw [if_pos]
  simp; omega
 unfold opened
 rw [this]; rfl
def gI (b n c k : Int) : Value := .agg #[.int .i64 b, .int .i64 n, .int .i64 c, .int .i64 k]
def Neg (b n c k : Int) : Prop := b < 0 ∨ n < 0 ∨ c < 0 ∨ k < 0
theorem k_a (b n c k : Int) : Neg b n c k ∨ ∃ g : Geo, gI b n c k = g.v ∧ b = g.b := by
 by_cases q : Neg b n c k
 ·exact .inl q
 ·unfold Neg at q
  obtain ⟨b', rfl⟩ := Int.eq_ofNat_of_zero_le (show 0 ≤ b by omega)
  obtain ⟨n', rfl⟩ := Int.eq_ofNat_of_zero_le (show 0 ≤ n by omega)
  obtain ⟨c', rfl⟩ := Int.eq_ofNat_of_zero_le (show 0 ≤ c by omega)
  obtain ⟨k', rfl⟩ := Int.eq_ofNat_of_zero_le (show 0 ≤ k by omega)
  exact .inr ⟨⟨b', n', c', k'⟩, rfl, rfl⟩
def CGoodNeg (R : RnK) : Prop := ∀ (b n c k : Int) (h : Hs), Neg b n c k → R 6 [gI b n c k] h = some (.val (.bool false) h)
theorem U_e {R : RnK} {N : Nat} (ci : CIn R) {b n c k : Int} {h : Hs} (x : Neg b n c k) : r6 R N [gI b n c k] h = some (.val (.bool false) h) := by
 refine WP.eqn ?_
 unfold r6 gI
 unfold Neg at x
 have H := Sto.enter h
 repeat' (first | ((refine B_a (ci.int _ _ _ _) (fun _ => ?_) (fun _ => ?_)) <;> first | (exfalso; omega) | skip) | (with_reducible first | refine w_jn ?_ | refine A_l ?_ | refine G_d ?_ | refine C_3 ?_ | refine A_5 ?_ | refine A_4 ?_ | refine B_k ?_ | refine B_u ?_ | refine A_0 ?_ | refine A_3 ?_ | refine A_e ?_) | ((with_reducible refine A_8 H ?_) ; (clear H; intro u H hu)) | ((with_reducible apply A_q 0 H) ; rfl; rfl; rfl))
 all_goals exact A_u H rfl ⟨rfl, rfl⟩
def BadG (b n c k : Int) : Prop := Neg b n c k ∨ ∃ g : Geo, gI b n c k = g.v ∧ ¬ g.Ok
theorem R_z {R : RnK} (cg : CGood R) (cgn : CGoodNeg R) {b n c k : Int} (x : BadG b n c k) (u : Hs) : R 6 [gI b n c k] u = some (.val (.bool false) u) := by
 rcases x with q | ⟨g, q1, q2⟩
 ·exact cgn b n c k u q
 ·rw [q1, cg g u, decide_eq_false q2]
theorem k_w (b n c k : Int) : BadG b n c k ∨ ∃ g : Geo, gI b n c k = g.v ∧ b = g.b ∧ g.Ok := by
 rcases k_a b n c k with q | ⟨g, q1, q2⟩
 ·exact .inl (.inl q)
 ·by_cases x : g.Ok
  ·exact .inr ⟨g, q1, q2, x⟩
  ·exact .inl (.inr ⟨g, q1, x⟩)
def CMakeNo (R : RnK) : Prop := ∀ (b n c k : Int) (h : Hs), BadG b n c k → R 5 [gI b n c k] h = some (.val (.tuple #[.slice none 0 0, .int .i64 (.ofNat 1)]) h)
theorem W_y {R : RnK} {N : Nat} (cg : CGood R) (cgn : CGoodNeg R) {b n c k : Int} {h : Hs} (q : BadG b n c k) : r5 R N [gI b n c k] h = some (.val (.tuple #[.slice none 0 0, .int .i64 (.ofNat 1)]) h) := by
 have x := R_z cg cgn q
 refine WP.eqn ?_
 unfold r5 gI
 unfold gI at x
 have H := Sto.enter h
 repeat' (first | (refine A_n (x _) ?_) | (with_reducible first | refine w_jn ?_ | refine A_l ?_ | refine B_u ?_ | refine A_0 ?_ | refine A_3 ?_) | ((with_reducible refine A_8 H ?_) ; (clear H; intro u H hu)) | ((with_reducible apply A_f 0 H) ; rfl; rfl; rfl))
 exact A_u H rfl ⟨rfl, rfl⟩
set_option linter.unusedSimpArgs false
theorem k_3 : B_x nd0 = zero8 := rfl
theorem T_w (g : Geo) : rootN.good g := by
 unfold Nd.good
 rw [if_neg (show ¬ rootN.ty = 0 by show ¬ 2 = 0; decide)]
 refine ⟨by show 1 ≤ 2; decide, by show 2 ≤ 3; decide, Nat.le_refl _, by show 1 ≤ 200; decide, ?_, by show 0 ≤ 4; decide, .inr fun i hi => absurd hi (Nat.not_lt_zero _), rfl⟩
 unfold Nd.sizedP
 rw [if_neg (show ¬ rootN.ty = 1 from by show ¬ 2 = 1; decide), if_pos (show rootN.ty = 2 from rfl)]
 exact Nat.zero_le _
theorem U_j {g : Geo} (x : g.Ok) : (C_x g).good g := by
 have h1 := x.1.num
 have h2 := x.2
 have h4 := x.1.n2
 have h5 : g.dataAt = g.bitsAt + g.bitsN + 2 * g.n := rfl
 unfold Nd.good
 rw [if_neg (show ¬ (C_x g).ty = 0 by show ¬ 2 = 0; decide)]
 refine ⟨by show 1 ≤ 2; decide, by show 2 ≤ 3; decide, Nat.le_refl _, by show 1 ≤ 200; decide, ?_, by show 1 ≤ 4; decide, .inl ⟨rfl, rfl⟩, ?_⟩
 ·unfold Nd.sizedP
  rw [if_neg (show ¬ (C_x g).ty = 1 from by show ¬ 2 = 1; decide), if_pos (show (C_x g).ty = 2 from rfl)]
  show g.n ≤ min g.b 4096
  omega
 ·show g.n + 0 = (C_x g).needs
  unfold Nd.needs
  rw [if_pos (show (C_x g).ty = 2 from rfl)]
  rfl
theorem N_q {n i : Nat} (h : 8 * i + 8 ≤ n) : B_s (List.replicate n 0) i = zero8 := by
 unfold B_s zero8
 rw [List.drop_replicate, List.take_replicate]
 congr 1
 omega
section
variable {g : Geo} (x : g.Ok)
include x
theorem G_8 : ∃ W4 : List Nat, D_b g = putW W4 (8 * g.bitsAt) (A_6 g g.b) ∧ V_r g = putW W4 (8 * g.bitsAt) (setBits (List.replicate (8 * g.bitsN) 0) true (B_7 g g.b)) ∧ W4.length = 8 * g.b ∧
 B_s W4 (g.nodeAt 1) = B_x rootN ∧ B_s W4 (g.nodeAt 2) = B_x (C_x g) ∧ (∀ i, 1 ≤ i → i < g.b - 1 → i ≠ g.nodeAt 1 → i ≠ g.nodeAt 2 → B_s W4 i = zero8) := by
 have h1 := x.1.num
 have h2 := x.2
 have h4 := x.1.n2
 have h5 := x.1.n1
 have h6 := x.1.b1
 have n1 : g.nodeAt 1 = g.bitsAt + g.bitsN := by unfold Geo.nodeAt; rw [if_pos (by omega)]; omega
 have n2 : g.nodeAt 2 = g.bitsAt + g.bitsN + 1 := by unfold Geo.nodeAt; rw [if_pos (by omega)]; omega
 have h7 : g.dataAt = g.bitsAt + g.bitsN + 2 * g.n := rfl
 have h8 : g.bitsAt = 1 + g.c * g.k := rfl
 have l0 : (List.replicate (8 * g.b) 0).length = 8 * g.b := List.length_replicate
 have lh : (B_z g 0).length = 8 := rfl
 have lr := E_u
 have ll := E_s (g := g)
 have l1 : (putW (List.replicate (8 * g.b) 0) 0 (B_z g 0)).length = 8 * g.b := by rw [B_b (by omega), l0]
 have l2 : (putW (putW (List.replicate (8 * g.b) 0) 0 (B_z g 0)) (8 * (g.b - 1)) (B_z g 0)).length = 8 * g.b := by rw [B_b (by omega), l1]
 have l3 : (putW (putW (putW (List.replicate (8 * g.b) 0) 0 (B_z g 0)) (8 * (g.b - 1)) (B_z g 0)) (8 * g.nodeAt 1) (B_x rootN)).length = 8 * g.b := by rw [B_b (by omega), l2]
 have l4 : (putW (putW (putW (putW (List.replicate (8 * g.b) 0) 0 (B_z g 0)) (8 * (g.b - 1)) (B_z g 0)) (8 * g.nodeAt 1) (B_x rootN)) (8 * g.nodeAt 2) (B_x (C_x g))).length = 8 * g.b := by rw [B_b (by omega), l3]
 refine ⟨_, rfl, rfl, l4, ?_, ?_, fun i i1 i2 i3 i4 => ?_⟩
 ·rw [D_q (by omega) (by omega) (by omega), J_a lr (by omega)]
 ·rw [J_a ll (by omega)]
 ·rw [D_q (by omega) (by omega) (by omega), D_q (by omega) (by omega) (by omega), D_q (by omega) (by omega) (by omega), D_q (by omega) (by omega) (by omega), N_q (by omega)]
theorem I_t {i : Nat} (h : i < g.bitsAt ∨ g.bitsAt + g.bitsN ≤ i) (hi : i < g.b) : ∀ W4 : List Nat, W4.length = 8 * g.b → B_s (putW W4 (8 * g.bitsAt) (A_6 g g.b)) i = B_s W4 i := fun W4 l4 => by
 have h1 := x.1.num
 have h2 := x.2
 have lb := C_6 (g := g) (i := g.b)
 have h3 : g.bitsN = (g.b + 511) / 512 := rfl
 have h7 : g.dataAt = g.bitsAt + g.bitsN + 2 * g.n := rfl
 exact D_q (by omega) (by omega) (by omega)
theorem Y_y : INode g (D_b g) 1 rootN := by
 obtain ⟨W4, e, _, l4, b1, b2, b3⟩ := G_8 x
 have h5 := x.1.n1
 have h1 := x.1.num
 have h2 := x.2
 have n1 : g.nodeAt 1 = g.bitsAt + g.bitsN := by unfold Geo.nodeAt; rw [if_pos (by omega)]; omega
 have h7 : g.dataAt = g.bitsAt + g.bitsN + 2 * g.n := rfl
 refine ⟨Nat.le_refl _, by omega, ?_, T_w g⟩
 rw [e, I_t x (by omega) (by omega) W4 l4, b1]
 exact G_w (by decide)
theorem Y_q : INode g (D_b g) 2 (C_x g) := by
 obtain ⟨W4, e, _, l4, b1, b2, b3⟩ := G_8 x
 have h5 := x.1.n1
 have h1 := x.1.num
 have h2 := x.2
 have n2 : g.nodeAt 2 = g.bitsAt + g.bitsN + 1 := by unfold Geo.nodeAt; rw [if_pos (by omega)]; omega
 have h7 : g.dataAt = g.bitsAt + g.bitsN + 2 * g.n := rfl
 refine ⟨by omega, by omega, ?_, U_j x⟩
 rw [e, I_t x (by omega) (by omega) W4 l4, b2]
 exact G_w (N_f x)
theorem X_g {i : Nat} (h3 : 3 ≤ i) (hi : i ≤ g.n) : INode g (D_b g) i nd0 := by
 obtain ⟨W4, e, _, l4, b1, b2, b3⟩ := G_8 x
 have h1 := x.1.num
 have h2 := x.2
 have n0 : g.nodeAt i = g.bitsAt + g.bitsN + i - 1 := by unfold Geo.nodeAt; rw [if_pos (by omega)]
 have n1 : g.nodeAt 1 = g.bitsAt + g.bitsN := by unfold Geo.nodeAt; rw [if_pos (by omega)]; omega
 have n2 : g.nodeAt 2 = g.bitsAt + g.bitsN + 1 := by unfold Geo.nodeAt; rw [if_pos (by omega)]; omega
 have h7 : g.dataAt = g.bitsAt + g.bitsN + 2 * g.n := rfl
 refine ⟨by omega, hi, ?_, R_t g⟩
 rw [e, I_t x (by omega) (by omega) W4 l4, b3 _ (by omega) (by omega) (by omega) (by omega), ← k_3]
 exact G_w (V_a x (R_t g))
theorem Y_g {k : Nat} (hk : k < g.n) : B_s (D_b g) (g.lostAt + k) = zero8 := by
 obtain ⟨W4, e, _, l4, b1, b2, b3⟩ := G_8 x
 have h5 := x.1.n1
 have h1 := x.1.num
 have h2 := x.2
 have n1 : g.nodeAt 1 = g.bitsAt + g.bitsN := by unfold Geo.nodeAt; rw [if_pos (by omega)]; omega
 have n2 : g.nodeAt 2 = g.bitsAt + g.bitsN + 1 := by unfold Geo.nodeAt; rw [if_pos (by omega)]; omega
 have h7 : g.dataAt = g.bitsAt + g.bitsN + 2 * g.n := rfl
 have h8 : g.lostAt = g.bitsAt + g.bitsN + g.n := rfl
 rw [e, I_t x (by omega) (by omega) W4 l4, b3 _ (by omega) (by omega) (by omega) (by omega)]
omit x in
theorem U_v {l z : List Nat} {i : Int} (h : i.toNat / 64 < l.length) : C_t (l ++ z) true i = C_t l true i ++ z := by
 unfold C_t
 by_cases q : 0 ≤ i
 ·rw [if_pos ⟨q, by rw [List.length_append]; omega⟩, if_pos ⟨q, h⟩, List.set_append_left _ _ h]
  congr 3
  rw [List.getD_eq_getElem?_getD, List.getD_eq_getElem?_getD, List.getElem?_append_left h]
 ·rw [if_neg (fun z => q z.1), if_neg (fun z => q z.1)]
omit x in
theorem P_p (z : List Nat) : ∀ (is : List Int) (l : List Nat), (∀ i ∈ is, i.toNat / 64 < l.length) → setBits (l ++ z) true is = setBits l true is ++ z := by
 intro is
 induction is with
 | nil => intro l _; rfl
 | cons i is ih =>
  intro l h
  show setBits (C_t (l ++ z) true i) true is = setBits (C_t l true i) true is ++ z
  rw [U_v (h i List.mem_cons_self)]
  exact ih _ fun j hj => by rw [H_y]; exact h j (List.mem_cons_of_mem _ hj)
theorem Q_n : V_r g = D_b g := by
 obtain ⟨W4, e1, e2, l4, b1, b2, b3⟩ := G_8 x
 have h1 := x.1.num
 have h2 := x.2
 have h5 := x.1.n1
 have h3 : g.bitsN = (g.b + 511) / 512 := rfl
 have n1 : g.nodeAt 1 = g.bitsAt + g.bitsN := by unfold Geo.nodeAt; rw [if_pos (by omega)]; omega
 have n2 : g.nodeAt 2 = g.bitsAt + g.bitsN + 1 := by unfold Geo.nodeAt; rw [if_pos (by omega)]; omega
 have h7 : g.dataAt = g.bitsAt + g.bitsN + 2 * g.n := rfl
 have h8 : g.bitsAt = 1 + g.c * g.k := rfl
 have lb := C_6 (g := g) (i := g.b)
 have es : setBits (List.replicate (8 * g.bitsN) 0) true (B_7 g g.b) = A_6 g g.b ++ List.replicate (8 * g.bitsN - (g.b + 63) / 64) 0 := by
  rw [← O_f g.b, ← P_p _ _ _ fun i hi => ?_]
  ·rw [List.replicate_append_replicate]
   congr 2
   omega
  ·unfold B_7 at hi
   rw [List.mem_map] at hi
   obtain ⟨k, hk, rfl⟩ := hi
   have := List.mem_range.1 (List.mem_filter.1 hk).1
   rw [List.length_replicate]
   show k / 64 < _
   omega
 have ls : (setBits (List.replicate (8 * g.bitsN) 0) true (B_7 g g.b)).length = 8 * g.bitsN := by rw [D_m, List.length_replicate]
 rw [e1, e2]
 refine L_8 (by rw [B_b (by omega), B_b (by omega)]) fun i hi => ?_
 rw [B_b (by omega)] at hi
 rw [I_u (by omega), I_u (by omega), ls, lb]
 by_cases c1 : 8 * g.bitsAt ≤ i ∧ i < 8 * g.bitsAt + (g.b + 63) / 64
 ·rw [if_pos c1, if_pos (by omega), es, List.getD_eq_getElem?_getD, List.getElem?_append_left (by omega), ← List.getD_eq_getElem?_getD]
 ·rw [if_neg c1]
  by_cases c2 : 8 * g.bitsAt ≤ i ∧ i < 8 * g.bitsAt + 8 * g.bitsN
  ·have z := b3 (i / 8) (by omega) (by omega) (by omega) (by omega)
   have zi := congrArg (fun l => List.getD l (i % 8) 0) z
   simp only [B_s] at zi
   rw [L_2 _ _ _ _ (by omega), show 8 * (i / 8) + i % 8 = i by omega] at zi
   rw [if_pos c2, es, List.getD_eq_getElem?_getD, List.getElem?_append_right (by omega), List.getElem?_replicate, zi]
   unfold zero8
   rw [List.getD_eq_getElem?_getD, List.getElem?_replicate]
   split <;> split <;> rfl
  ·rw [if_neg c2]
end
set_option linter.unusedSimpArgs false
def CContD (R : RnK) : Prop := ∀ (g : Geo) (l : List Nat) (s : Value) (i : Nat) (d : Nd) (h : Hs), g.Ok → l.length = 8 * g.b → Small l → Rd h s 1 (Wl l) → i ≤ 100000 → INode g l i d → d.ty = 2 →
 R 39 [imgV g s, .int .i64 (.ofNat i)] h = some (.val (.slice none 0 0) h)
theorem e_u {R : RnK} {N : Nat} (ci : CImgNode R) {g : Geo} {l : List Nat} {s : Value} {i : Nat} {d : Nd} {h : Hs} (x : g.Ok) (hl : l.length = 8 * g.b) (sm : Small l) (r : Rd h s 1 (Wl l)) (hi : i ≤ 100000) (hd : INode g l i d) (ty : d.ty = 2) :
 r39 R N [imgV g s, .int .i64 (.ofNat i)] h = some (.val (.slice none 0 0) h) := by
 refine WP.eqn ?_
 have cio := fun u rr => (ci g l s i u x hl sm rr hi).1 d hd
 unfold r39
 unfold imgV at cio ⊢
 have H := Sto.enter1 r
 refine A_0 ?_
 refine A_0 ?_
 refine A_3 ?_
 refine A_8 H ?_
 clear H; intro u1 H hu1
 repeat' (first | ((with_reducible apply A_f 0 H) ; rfl; rfl; rfl))
 refine A_1 (cio _ (H.rd 1 rfl)) fun v4 u4 hv => ?_
 obtain ⟨a0, c0, rfl, n4⟩ := hv
 replace H := H.call n4.rl
 unfold Nd.v
 repeat' (first | (with_reducible first | refine w_jn ?_ | refine A_l ?_ | refine E_q ?_ | refine C_3 ?_ | refine A_5 ?_ | refine A_4 ?_ | refine B_k ?_ | refine A_e ?_) | ((with_reducible apply B_i) ; rfl) | ((with_reducible refine A_z H ?_) ; (clear H; intro u H hu)) | ((with_reducible refine C_y (fun _ => ?_) (fun _ => ?_)) <;> first | (exfalso; omega) | skip) | ((with_reducible apply A_q 0 H) ; rfl; rfl; rfl) | ((with_reducible apply A_i 0 H) ; rfl; rfl; rfl; omega; rfl; (clear H; intro u H hu; (try dsimp only [List.set_cons_zero, List.set_cons_succ, A_b, List.toList_toArray, splice, ev, rep, List.cons_append, List.nil_append] at H))))
 exact A_u H rfl ⟨rfl, rfl⟩
theorem j_5 {Q : Value → Hs → Prop} {h0 h : Hs} {m : List Th} {v : Value} (H : Sto h0 [] h m) (e : D_8 h.hp h0.nx ⟨h0.hp, h0.nx, []⟩ v = none) (q : Q v ⟨h.hp, h.nx, h0.lo⟩) : WP (clrK h0 v h) Q := by
 have e1 : clrK h0 v h = clear2 h0 v h (D_8 h.hp h0.nx ⟨h0.hp, h0.nx, []⟩ v) := by
  rw [G_v, show Nat.blt h.lo h0.nx = false from by rw [blt_eq]; simpa using H.lo0]; rfl
 rw [e1, e]
 exact ⟨v, _, rfl, q⟩
theorem T_m {h0 h : Hs} {b n e u : Nat} {c : Tr Value} {r : Bool} {v : Value} (hb : h0.nx ≤ b) (hg : h.hp.get b = some (.row c n e u r false)) : D_8 h.hp h0.nx ⟨h0.hp, h0.nx, []⟩ (.tuple #[.pointer (some ⟨b, 0, none⟩), v]) = none := by
 have e1 : mvId h.hp h0.nx ⟨h0.hp, h0.nx, []⟩ b = none := by
  unfold mvId
  rw [show Nat.blt b h0.nx = false from by rw [blt_eq]; exact decide_eq_false (by omega)]
  show Q_i _ b (h.hp.get b) = none
  rw [hg]; rfl
 have e2 : D_j h.hp h0.nx ⟨h0.hp, h0.nx, []⟩ (.pointer (some ⟨b, 0, none⟩)) = none := by
  simp only [D_j, C_f, I_g, e1, Q_4]
 simp only [D_8, C_a, e2, F_u, F_b]
def I_r (n : Nat) : List Value := [.int .i64 (.ofNat n), .int .i64 (.ofNat 2), .slice none 0 0, .slice none 0 0]
def dirI (k : Nat) : SB := .row 107 0 true [wI 2, .slice none 0 0, .map (some k), wI 1, wI 0]
def tB (n : Nat) : List SB := [.row 99 0 true [.int .i64 (.ofNat n), .map (some 1)], .mp [⟨wI 1, wP 2 0, 0⟩, ⟨wI 2, wP 3 0, 1⟩] 2, dirI 4, dirI 5, .mp [] 0, .mp [] 0]
def TreeNew (n : Nat) (h u : Hs) (r : Value) : Prop := ∃ t, r = .tuple #[.pointer (some ⟨t 0, 0, none⟩), .int .i64 (.ofNat 0)] ∧ Emb t (B_g (tB n)) u ∧ (∀ id, id < 6 → h.nx ≤ t id) ∧ Same h u ∧ ∃ c nn e uu rw_, u.hp.get (t 0) = some (.row c nn e uu rw_ false)
def CBuild2 (R : RnK) (n : Nat) : Prop := ∀ (h : Hs) (v : Value), OwnSl h v 89 4 true 2 (I_r 1 ++ I_r 2) → (∀ b, vId v = some b → b < h.nx) → WP (R 41 [.int .i64 (.ofNat n), v] h) fun r u => TreeNew n h u r
def pUp (i : Nat) : List Value := if i ≤ 1 then [] else if i = 2 then I_r 1 else I_r 1 ++ I_r 2
def pCt (i : Nat) : Nat := min (i - 1) 2
theorem Y_2 {i : Nat} (h1 : 1 ≤ i) (h2 : i ≤ 2) : pUp (i + 1) = pUp i ++ I_r i ∧ pCt (i + 1) = pCt i + 1 := by
 match i, h1, h2 with
 | 1, _, _ => exact ⟨rfl, rfl⟩
 | 2, _, _ => exact ⟨rfl, rfl⟩
theorem R_l {i : Nat} (h : 3 ≤ i) : pUp (i + 1) = pUp i ∧ pCt (i + 1) = pCt i := by
 unfold pUp pCt
 rw [if_neg (by omega), if_neg (by omega), if_neg (by omega), if_neg (by omega)]
 exact ⟨rfl, by omega⟩
theorem b_6 {g : Geo} (x : g.Ok) {i : Nat} (h1 : 1 ≤ i) (h2 : i ≤ 2) : ∃ d, INode g (D_b g) i d ∧ d.ty = 2 ∧ d.sz ≤ 4096 ∧ ∀ k, k < d.sz → (E_1 d.rs k).getD 0 < g.b ∧ B_s (D_b g) ((E_1 d.rs k).getD 0) = zero8 := by
 have n2 := x.1.n2
 have h3 := x.1.num
 have h4 := x.2
 have h7 : g.dataAt = g.bitsAt + g.bitsN + 2 * g.n := rfl
 have h8 : g.lostAt = g.bitsAt + g.bitsN + g.n := rfl
 match i, h1, h2 with
 | 1, _, _ => exact ⟨rootN, Y_y x, rfl, by decide, fun k hk => absurd hk (Nat.not_lt_zero _)⟩
 | 2, _, _ =>
  refine ⟨C_x g, Y_q x, rfl, by show g.n ≤ 4096; omega, fun k hk => ?_⟩
  have hk : k < g.n := hk
  rw [show E_1 (C_x g).rs k = some (g.lostAt + k) from if_pos hk]
  exact ⟨by show g.lostAt + k < g.b; omega, Y_g x hk⟩
theorem g_6 {R : RnK} {N : Nat} (ci : CImgNode R) (cc : CContD R) (cs : CSlots R) {g : Geo} {s : Value} {h : Hs} (hN : 100000 < N) (x : g.Ok) (cb : CBuild2 R g.n) (r : Rd h s 1 (Wl (D_b g))) :
 WP (r11 R N [imgV g s] h) fun v u => TreeNew g.n h u v := by
 obtain ⟨wl, wsm, _⟩ := G_r x
 have cig := fun i u hi rr => ci g (D_b g) s i u x wl wsm rr hi
 have ccg := fun i d u hi rr => cc g (D_b g) s i d u x wl wsm rr hi
 have csg := fun i d u hi rr => cs g (D_b g) s i d u x wl wsm rr hi
 unfold r11
 unfold imgV at cig ccg csg ⊢
 have n2 := x.1.n2
 have n1 := x.1.n1
 have H := Sto.enter1 r
 refine A_0 ?_
 refine A_3 ?_
 refine A_8 H ?_
 clear H; intro u1 H hu1
 repeat' (first | (with_reducible refine w_jn ?_))
 replace H := H.nilS 89 4
 obtain ⟨m0, hm0, H0⟩ : ∃ m0, m0 = _ ∧ Sto h [] _ m0 := ⟨_, rfl, H⟩
 refine C_d (T := Value → Value → Value → Value → Value → Value → Value → Value → Value → Value → Value → Value → Value → Value → Value → Value → Hs → An) (Good := fun k self => ∀ (i : Nat) (y1 y2 y3 y4 y5 y6 y7 y8 y9 y10 y11 y12 cur y14 y15 : Value) (w : Hs), 1 ≤ i → i + k = g.n + 1 → Sto h [] w (m0.set 0 (.osl cur 89 4 true (pCt i) (pUp i))) → WP (self (.int .i64 (.ofNat i)) y1 y2 y3 y4 y5 y6 y7 y8 y9 y10 y11 y12 cur y14 y15 w) (fun v u => TreeNew g.n h u v)) (fun k self ih i y1 y2 y3 y4 y5 y6 y7 y8 y9 y10 y11 y12 cur y14 y15 w hi hk H1 => ?_) N g.n (by omega) 1 _ _ _ _ _ _ _ _ _ _ _ _ _ _ _ _ (Nat.le_refl _) (by omega) (by rw [hm0]; exact H)
 clear H0 H
 have hm1 := hm0
 rw [hm0] at H1
 have H := H1
 clear H1
 dsimp only [List.set_cons_zero, List.set_cons_succ] at H
 obtain ⟨ac, cc, rfl⟩ := (show OwnSl w cur 89 4 _ _ _ from H.ok _ (List.mem_of_getElem? (i := 0) rfl)).form
 repeat' (first | (with_reducible first | refine w_jn ?_ | refine A_l ?_ | refine A_j ?_ | refine A_e ?_) | ((with_reducible refine M_x (fun _ => ?_) (fun _ => ?_)) <;> first | (exfalso; omega) | skip) | ((with_reducible apply A_q 1 H) ; rfl; rfl; rfl) | ((with_reducible apply A_f 1 H) ; rfl; rfl; rfl))
 ·by_cases i2 : i ≤ 2
  ·obtain ⟨d, hd, ty, sz, hr⟩ := b_6 x hi i2
   refine A_1 ((cig i _ (by omega) (H.rd 2 rfl)).1 d hd) fun v4 u4 hv => ?_
   obtain ⟨a0, c0, rfl, n4⟩ := hv
   replace H := H.call n4.rl
   unfold Nd.v
   repeat' (first | (refine A_n (ccg i d _ (by omega) (H.rd 4 rfl) hd ty) ?_) | (with_reducible first | refine w_jn ?_ | refine A_j ?_ | refine B_k ?_ | refine A_e ?_ | refine C_9 ?_ | refine C_z ?_) | ((with_reducible apply B_i) ; rfl) | ((with_reducible apply A_9) ; rfl; (try dsimp only [splice, ev, A_b, rep, List.cons_append, List.nil_append])) | ((with_reducible refine E_0 ?_ ?_) ; omega) | ((with_reducible refine I_1 H ?_) ; (clear H; intro u H hu)) | ((with_reducible refine A_z H ?_) ; (clear H; intro u H hu)) | ((with_reducible refine B_p (fun _ => ?_) (fun _ => ?_)) <;> first | (exfalso; omega) | skip) | ((with_reducible apply A_q 0 H) ; rfl; rfl; rfl) | ((with_reducible apply A_i 0 H) ; rfl; rfl; rfl; omega; rfl; (clear H; intro u H hu; (try dsimp only [List.set_cons_zero, List.set_cons_succ, A_b, List.toList_toArray, splice, ev, rep, List.cons_append, List.nil_append] at H))) | ((with_reducible apply A_f 3 H) ; rfl; rfl; rfl) | ((with_reducible apply A_f 4 H) ; rfl; rfl; rfl))
   refine A_1 (csg i d _ (by omega) (H.rd 5 rfl) hd ty sz hr) fun v5 u5 n5 => ?_
   obtain ⟨a5, k5, rfl⟩ := n5.2.1.form
   replace n5 := n5.rdU (Ls := List.replicate d.sz zS) rfl (fun x hx => by rw [(List.mem_replicate.1 hx).2]; rfl) List.length_replicate
   replace H := H.call n5
   repeat' (first | (with_reducible first | refine w_jn ?_ | refine C_s ?_))
   obtain ⟨k0, hk0, K0⟩ : ∃ k0, k0 = _ ∧ Sto h [] _ k0 := ⟨_, rfl, H⟩
   refine C_d (Good := fun q (self2 : L4) => ∀ (j : Nat) (z1 z2 z3 : Value) (w2 : Hs), j + q = d.sz → Sto h [] w2 k0 → WP (self2 (.int .i64 (.ofNat j)) z1 z2 z3 w2) (fun v u => TreeNew g.n h u v)) (fun q self2 ih2 j z1 z2 z3 w2 hj H2 => ?_) N d.sz (by omega) 0 _ _ _ _ (by omega) K0
   clear H K0
   have hk1 := hk0
   rw [hk0] at H2
   have H := H2
   clear H2
   repeat' (first | (with_reducible first | refine w_jn ?_ | refine A_l ?_ | refine A_j ?_) | ((with_reducible apply C_e H) ; rfl; (clear H; intro u H hu; (try dsimp only [List.set_cons_zero, List.set_cons_succ, A_b, List.toList_toArray, splice, ev, rep, List.cons_append, List.nil_append] at H))) | ((with_reducible refine A_r (fun _ => ?_) (fun _ => ?_)) <;> first | (exfalso; omega) | skip) | ((with_reducible apply A_f 1 H) ; rfl; rfl; rfl))
   ·have gz : (List.replicate d.sz zS)[j]? = some zS := by rw [List.getElem?_replicate, if_pos (by omega)]
    refine w_at 0 H (l := zS) rfl gz rfl rfl ?_
    unfold zS
    repeat' (first | (with_reducible first | refine w_jn ?_ | refine A_j ?_ | refine A_e ?_) | ((with_reducible refine A_z H ?_) ; (clear H; intro u H hu)) | ((with_reducible refine C_y (fun _ => ?_) (fun _ => ?_)) <;> first | (exfalso; omega) | skip) | ((with_reducible refine A_m ?_ ?_) ; omega) | ((with_reducible apply A_q 0 H) ; rfl; rfl; rfl) | ((with_reducible apply A_i 0 H) ; rfl; rfl; rfl; omega; rfl; (clear H; intro u H hu; (try dsimp only [List.set_cons_zero, List.set_cons_succ, A_b, List.toList_toArray, splice, ev, rep, List.cons_append, List.nil_append] at H))))
    refine ih2 (q - 1) (by omega) (j + 1) _ _ _ _ (by omega) ?_
    rw [hk1]
    exact H.tail
   ·have pc : pCt i ≤ 2 := Nat.min_le_right _ _
    skip
    refine D_u 5 0 H rfl rfl rfl rfl (by omega) (by omega) fun v6 u6 H6 hn6 => ?_
    clear H
    have H := H6
    clear H6
    dsimp only [List.set_cons_zero, List.set_cons_succ] at H
    replace H := H.sel [5, 6, 7] 8 rfl (by decide) (by decide); dsimp only [List.filterMap_cons, List.filterMap_nil, List.getElem?_cons_zero, List.getElem?_cons_succ] at H
    rw [show pUp i ++ [Value.int .i64 (.ofNat i), Value.int .i64 (.ofNat d.ty), Value.slice none 0 0, Value.slice none 0 0] = pUp (i + 1) from by rw [ty, (Y_2 hi i2).1]; rfl, ← (Y_2 hi i2).2] at H
    repeat' (first | ((with_reducible refine A_m ?_ ?_) ; omega))
    refine ih (k - 1) (by omega) (i + 1) _ _ _ _ _ _ _ _ _ _ _ _ _ _ _ _ (by omega) (by omega) ?_
    rw [hm1]
    exact H
  ·refine A_1 ((cig i _ (by omega) (H.rd 2 rfl)).1 nd0 (X_g x (by omega) (by omega))) fun v4 u4 hv => ?_
   obtain ⟨a0, c0, rfl, n4⟩ := hv
   replace H := H.call n4.rl
   unfold Nd.v nd0
   repeat' (first | (with_reducible first | refine w_jn ?_ | refine A_l ?_ | refine A_j ?_ | refine B_k ?_ | refine A_e ?_) | ((with_reducible apply B_i) ; rfl) | ((with_reducible refine A_z H ?_) ; (clear H; intro u H hu)) | ((with_reducible refine B_p (fun _ => ?_) (fun _ => ?_)) <;> first | (exfalso; omega) | skip) | ((with_reducible refine A_m ?_ ?_) ; omega) | ((with_reducible apply A_q 0 H) ; rfl; rfl; rfl) | ((with_reducible apply A_i 0 H) ; rfl; rfl; rfl; omega; rfl; (clear H; intro u H hu; (try dsimp only [List.set_cons_zero, List.set_cons_succ, A_b, List.toList_toArray, splice, ev, rep, List.cons_append, List.nil_append] at H))))
   refine ih (k - 1) (by omega) (i + 1) _ _ _ _ _ _ _ _ _ _ _ _ _ _ _ _ (by omega) (by omega) ?_
   rw [hm1, (R_l (by omega)).1, (R_l (by omega)).2]
   exact H.tail.tail
 ·obtain rfl : i = g.n + 1 := by omega
  have e1 : pCt (g.n + 1) = 2 := by unfold pCt; omega
  have e2 : pUp (g.n + 1) = I_r 1 ++ I_r 2 := by unfold pUp; rw [if_neg (by omega), if_neg (by omega)]
  rw [e1, e2] at H
  rw [e1]
  have hx0 := H.nx
  refine A_1 (cb w _ (H.ok _ (List.mem_of_getElem? (i := 0) rfl)) fun b hb => (H.ids _ (List.mem_of_getElem? (i := 0) rfl) b hb).1) fun r5 u5 hv => ?_
  obtain ⟨t, rfl, E, ge, sm, c, nn, e, uu, rw_, hg⟩ := hv
  replace H := H.same sm
  have hx := H.nx
  have hw : h.nx ≤ t 0 := Nat.le_trans hx0 (ge 0 (by decide))
  repeat' (first | (with_reducible first | refine w_jn ?_ | refine A_j ?_) | ((with_reducible apply B_i) ; rfl) | ((with_reducible refine C_y (fun _ => ?_) (fun _ => ?_)) <;> first | (exfalso; omega) | skip))
  exact j_5 H (T_m hw hg) ⟨t, rfl, ⟨E.at_, E.lt, E.inj⟩, fun id hid => Nat.le_trans hx0 (ge id hid), ⟨⟨hx, fun id hid => H.fr id hid (fun q => by cases q)⟩, rfl⟩, c, nn, e, uu, rw_, hg⟩
set_option linter.unusedSimpArgs false
def aBld (k : Nat) : List Value := [.int .i64 (.ofNat (k + 4)), .slice (some ⟨0, 0, none⟩) 2 2]
def mBld : List SB := [.row 89 4 false (I_r 1 ++ I_r 2)]
def aNw (k : Nat) : List Value := [.int .i64 (.ofNat (k + 4))]
def aSm : List Value := [.pointer (some ⟨0, 0, none⟩), .pointer (some ⟨6, 0, none⟩)]
def shI (d : Nat) : SB := .row 107 0 true [wI 2, .slice none 0 0, .map (some d), wI 1, wI 0]
def mSm (k : Nat) : List SB := tB (k + 4) ++ [.row 99 0 true [.int .i64 (.ofNat (k + 4)), .map (some 7)], .mp [⟨wI 1, wP 8 0, 0⟩, ⟨wI 2, wP 9 0, 1⟩] 2, shI 10, shI 11, .mp [] 0, .mp [] 0]
noncomputable section
def lN (h : Hs) (t : Nat) : List Nat := let m := refC h t 1; let a := refE h m 0; let b := refE h m 1; [t, m, a, b, refC h a 2, refC h b 2]
def geK : List Nat → Bool
 | [] => true
 | a :: l => andK (Nat.ble 1 a) (geK l)
def flK : Option Blk → Bool
 | some (.row _ _ _ _ _ fl) => notB fl
 | _ => false
def qBld (k : Nat) (v : Value) (h : Hs) : Bool := match v with
 | .tuple vs => match vs.toList with
  | [.pointer (some ⟨t, 0, none⟩), .int .i64 (.ofNat 0)] => andK (embK (lN h t) (tB (k + 4)) h) (andK (flK (h.hp.getK t)) (andK (geK (lN h t)) (Nat.ble 1 h.lo)))
  | _ => false
 | _ => false
def qNw (k : Nat) (v : Value) (h : Hs) : Bool := match v with
 | .pointer (some ⟨t, 0, none⟩) => embK (lN h t) (tB (k + 4)) h
 | _ => false
def qSm (v : Value) (h : Hs) : Bool := andK (eqV v (.bool true)) (andK (Nat.beq h.nx 12) (Nat.ble 12 h.lo))
end
def KBld (R0 : List Value → Hs → An) : Runs0 := KI (fun k => k < 61) aBld (fun _ => mBld) R0
def KNw (R0 : List Value → Hs → An) : Runs0 := KI (fun k => k < 61) aNw (fun _ => []) R0
def KSm (R0 : List Value → Hs → An) : Runs0 := KI (fun k => k < 61) (fun _ => aSm) mSm R0
structure ImR (R0 : FuncId → List Value → Hs → An) : Prop where
 bld : ∀ k, k < 61 → H_n (R0 41) (aBld k) mBld (qBld k) = true
 new : ∀ k, k < 61 → H_n (R0 13) (aNw k) [] (qNw k) = true
 same : ∀ k, k < 61 → H_n (R0 12) aSm (mSm k) qSm = true
def Ans (R : RnK) (f : FuncId) (K : Runs0) : Prop := ∀ a h o, fmG K a h = some o → R f a h = some o
structure ImF (R : RnK) (R0 : FuncId → List Value → Hs → An) : Prop where
 bld : Ans R 41 (KBld (R0 41))
 new : Ans R 13 (KNw (R0 13))
 same : Ans R 12 (KSm (R0 12))
theorem N_8 {s : Nat → Nat} {n e u : Nat} {L L' : List Value} {B : Option Blk} {y : Blk} (hB : B = some y) (h : BW n s (SB.row e u true L).blk y) (hl : L.length = L'.length) (hv : ∀ (i : Nat) (v v' : Value), L[i]? = some v → VW n s true v v' → L'[i]? = some v') : Holds B (.row e u true false L') := by
 have h : BW n s (.row (ofList L) L.length e u true false) y := h
 subst hB
 cases h with
 | row _ cs _ sz _ _ _ rw_ _ f hrw _ hc =>
  obtain ⟨g1, g2, _, g4⟩ := hrw rfl
  subst g1
  refine ⟨cs, f, by rw [← hl, g2], (fun h => by cases h), fun i => ?_⟩
  cases hi : L[i]? with
  | some v =>
   obtain ⟨v', w1, w2⟩ := hc i v (by rw [get_ofList]; exact hi)
   rw [w1, hv i v v' hi w2]
  | none =>
   have h1 : L.length ≤ i := List.getElem?_eq_none_iff.1 hi
   rw [List.getElem?_eq_none (by omega)]
   have : ¬ (cs.get i).isSome = true := fun hh => by have := (g4 i).1 hh; omega
   exact Option.not_isSome_iff_eq_none.1 this
theorem N_s {s : Nat → Nat} {n e u : Nat} {L L' : List Value} {B : Option Blk} (h : Holds B (.row e u true false L')) (hl : L.length = L'.length) (hv : ∀ (i : Nat) (v : Value), L[i]? = some v → ∃ v', L'[i]? = some v' ∧ VW n s true v v') : ∃ y, B = some y ∧ BW n s (SB.row e u true L).blk y := by
 obtain ⟨cs, f, q1, _, q3⟩ := h
 refine ⟨_, q1, .row _ _ _ _ _ _ _ _ _ _ (fun _ => ⟨rfl, hl, fun i => by rw [get_ofList]; simp, fun i => by rw [q3 i]; simp⟩) (fun h => by cases h) fun j v0 hv0 => ?_⟩
 rw [get_ofList] at hv0
 obtain ⟨v', w1, w2⟩ := hv j v0 hv0
 exact ⟨v', (q3 j).trans w1, w2⟩
theorem BW.mono {n n' : Nat} {s s' : Nat → Nat} (hn : n ≤ n') (hs : ∀ id, id < n → s' id = s id) {b0 b : Blk} (h : BW n s b0 b) : BW n' s' b0 b := by
 cases h with
 | row c0 c n0 n1 e u rw0 rw fl0 fl hrw hfl hc => exact .row _ _ _ _ _ _ _ _ _ _ hrw hfl fun i v0 hv => (hc i v0 hv).imp fun v q => ⟨q.1, q.2.mono hn hs⟩
 | mp es es' cl h => exact .mp _ _ _ (h.mono hn hs)
def sU (s s2 : Nat → Nat) (id : Nat) : Nat := if id < 6 then s id else s2 (id - 6)
theorem m_i {n i : Nat} {x : SB} (h : (tB n)[i]? = some x) : isRw x.blk = true := by
 match i, h with
 | 0, h => injection h with h; subst h; rfl
 | 1, h => injection h with h; subst h; rfl
 | 2, h => injection h with h; subst h; rfl
 | 3, h => injection h with h; subst h; rfl
 | 4, h => injection h with h; subst h; rfl
 | 5, h => injection h with h; subst h; rfl
 | i + 6, h => cases h
theorem h_w {n M : Nat} {s s2 : Nat → Nat} {h : Hs} (E : Emb s (B_g (tB (n + 4))) h) (hs : ∀ id, id < 6 → s id < M) (E2 : Emb s2 (B_g (tB (n + 4))) h) (hs2 : ∀ id, id < 6 → M ≤ s2 id) : Emb (sU s s2) (B_g (mSm n)) h := by
 have inj1 : ∀ (t : Nat → Nat), Emb t (B_g (tB (n + 4))) h → ∀ i j, i < 6 → j < 6 → i ≠ j → t i ≠ t j := fun t E i j hi hj hij => by
  have g : ∀ i, i < 6 → ∃ x, (tB (n + 4))[i]? = some x := fun i hi => ⟨_, List.getElem?_eq_getElem (show i < (tB (n + 4)).length from hi)⟩
  obtain ⟨x, hx⟩ := g i hi
  obtain ⟨y, hy⟩ := g j hj
  exact E.inj i j x.blk y.blk (by rw [B_q, hx]; rfl) (by rw [B_q, hy]; rfl) (m_i hx) hij
 have ge2 : ∀ (i : Nat) (x : SB), (tB (n + 4))[i]? = some x → ∃ y, h.hp.get (s2 i) = some y ∧ BW 6 s2 x.blk y := fun i x hx => (E2.at_ i x.blk (by rw [B_q, hx]; rfl)).2
 refine ⟨fun id b0 g => ?_, fun id hid => ?_, fun i j b b' g g' _ hij => ?_⟩
 ·have hid := D_f g
  have hid : id < 12 := hid
  refine ⟨hid, ?_⟩
  by_cases h6 : id < 6
  ·have e : (mSm n)[id]? = (tB (n + 4))[id]? := List.getElem?_append_left h6
   rw [B_q, e] at g
   obtain ⟨_, y, q1, q2⟩ := E.at_ id b0 (by rw [B_q]; exact g)
   refine ⟨y, by unfold sU; rw [if_pos h6]; exact q1, q2.mono (by show 6 ≤ 12; omega) fun i hi => ?_⟩
   unfold sU
   have hi : i < 6 := hi
   rw [if_pos hi]
  ·have eU : sU s s2 id = s2 (id - 6) := by unfold sU; rw [if_neg h6]
   rw [eU]
   rw [B_q] at g
   obtain ⟨j, rfl⟩ : ∃ j, id = 6 + j := ⟨id - 6, by omega⟩
   rw [Nat.add_sub_cancel_left]
   have u : ∀ i, i < 6 → s2 i = sU s s2 (6 + i) := fun i hi => by unfold sU; rw [if_neg (by omega), Nat.add_sub_cancel_left]
   have dir : ∀ (i d : Nat), d < 6 → (tB (n + 4))[i]? = some (dirI d) → ∃ y, h.hp.get (s2 i) = some y ∧ BW 12 (sU s s2) (shI (6 + d)).blk y := fun i d hd hx => by
    obtain ⟨y, q1, q2⟩ := ge2 i _ hx
    have := N_8 (L' := [wI 2, .slice none 0 0, .map (some (s2 d)), wI 1, wI 0]) q1 q2 rfl fun i v v' hv w => match i, hv with
     | 0, hv => by injection hv with hv; subst hv; unfold wI at w; cases w; rfl
     | 1, hv => by injection hv with hv; subst hv; cases w; rfl
     | 2, hv => by injection hv with hv; subst hv; cases w; rfl
     | 3, hv => by injection hv with hv; subst hv; unfold wI at w; cases w; rfl
     | 4, hv => by injection hv with hv; subst hv; unfold wI at w; cases w; rfl
     | i + 5, hv => by cases hv
    exact N_s this rfl fun i v hv => match i, hv with
     | 0, hv => ⟨_, rfl, by injection hv with hv; subst hv; exact .int _ _⟩
     | 1, hv => ⟨_, rfl, by injection hv with hv; subst hv; exact .nilslice⟩
     | 2, hv => ⟨_, rfl, by injection hv with hv; subst hv; rw [u d hd]; exact .map (6 + d) (by omega)⟩
     | 3, hv => ⟨_, rfl, by injection hv with hv; subst hv; exact .int _ _⟩
     | 4, hv => ⟨_, rfl, by injection hv with hv; subst hv; exact .int _ _⟩
     | i + 5, hv => by cases hv
   match j, hid with
   | 0, _ =>
    injection g with g; subst g
    obtain ⟨y, q1, q2⟩ := ge2 0 _ rfl
    have := N_8 (L' := [.int .i64 (.ofNat (n + 4)), .map (some (s2 1))]) q1 q2 rfl fun i v v' hv w => match i, hv with
     | 0, hv => by injection hv with hv; subst hv; generalize Int.ofNat (n + 4) = z at *; cases w; rfl
     | 1, hv => by injection hv with hv; subst hv; cases w; rfl
     | i + 2, hv => by cases hv
    exact N_s this rfl fun i v hv => match i, hv with
     | 0, hv => ⟨_, rfl, by injection hv with hv; subst hv; exact .int _ _⟩
     | 1, hv => ⟨_, rfl, by injection hv with hv; subst hv; rw [u 1 (by decide)]; exact .map 7 (by show 7 < 12; decide)⟩
     | i + 2, hv => by cases hv
   | 1, _ =>
    injection g with g; subst g
    obtain ⟨y, q1, q2⟩ := ge2 1 _ rfl
    cases q2 with
    | mp _ es' _ hm =>
     cases hm with
     | cons k1 h1 v1 t1 => cases t1 with
      | cons k2 h2 v2 t2 => cases t2 with
       | nil =>
        rename_i e1 e2
        refine ⟨_, q1, .mp _ _ _ (.cons k1 h1 ?_ (.cons k2 h2 ?_ .nil))⟩
        ·obtain ⟨a1, a2, a3⟩ := e1
         simp only at v1 ⊢
         unfold wP at v1 ⊢
         cases v1
         rw [u 2 (by decide)]
         exact .ptr 8 0 (by show 8 < 12; decide)
        ·obtain ⟨a1, a2, a3⟩ := e2
         simp only at v2 ⊢
         unfold wP at v2 ⊢
         cases v2
         rw [u 3 (by decide)]
         exact .ptr 9 0 (by show 9 < 12; decide)
   | 2, _ => injection g with g; subst g; exact dir 2 4 (by decide) rfl
   | 3, _ => injection g with g; subst g; exact dir 3 5 (by decide) rfl
   | 4, _ =>
    injection g with g; subst g
    obtain ⟨y, q1, q2⟩ := ge2 4 _ rfl
    cases q2 with
    | mp _ es' _ hm => exact ⟨_, q1, .mp _ _ _ (by cases hm; exact .nil)⟩
   | 5, _ =>
    injection g with g; subst g
    obtain ⟨y, q1, q2⟩ := ge2 5 _ rfl
    cases q2 with
    | mp _ es' _ hm => exact ⟨_, q1, .mp _ _ _ (by cases hm; exact .nil)⟩
   | j + 6, hj => omega
 ·have hid : id < 12 := hid
  unfold sU
  split
  ·exact E.lt id ‹_›
  ·exact E2.lt (id - 6) (by show id - 6 < 6; omega)
 ·have hi : i < 12 := D_f g
  have hj : j < 12 := D_f g'
  unfold sU
  split <;> split
  ·exact inj1 s E i j ‹_› ‹_› hij
  ·have := hs i ‹_›; have := hs2 (j - 6) (by omega); omega
  ·have := hs j ‹_›; have := hs2 (i - 6) (by omega); omega
  ·exact inj1 s2 E2 (i - 6) (j - 6) (by omega) (by omega) (by omega)
set_option linter.unusedSimpArgs false
theorem i_1 : ∀ {l : List Nat}, geK l = true → ∀ i, i < l.length → 1 ≤ nthM l i := by
 intro l
 induction l with
 | nil => intro _ i hi; exact absurd hi (Nat.not_lt_zero _)
 | cons a l ih =>
  intro h i hi
  obtain ⟨h1, h2⟩ := A_c h
  cases i with
  | zero => exact Nat.le_of_ble_eq_true h1
  | succ i => exact ih h2 i (by simpa using hi)
theorem d_f {k : Nat} {v : Value} {h : Hs} (hq : qBld k v h = true) : ∃ t, v = .tuple #[.pointer (some ⟨t, 0, none⟩), .int .i64 (.ofNat 0)] ∧ embK (lN h t) (tB (k + 4)) h = true ∧ flK (h.hp.getK t) = true ∧ geK (lN h t) = true ∧ 1 ≤ h.lo := by
 unfold qBld at hq
 split at hq
 ·rename_i vs
  split at hq
  ·rename_i t hvs
   obtain ⟨a1, a2⟩ := A_c hq
   obtain ⟨a2, a3⟩ := A_c a2
   obtain ⟨a3, a4⟩ := A_c a3
   exact ⟨t, by congr 1; apply Array.ext'; exact hvs, a1, a2, a3, Nat.le_of_ble_eq_true a4⟩
  ·cases hq
 ·cases hq
theorem g_h {B : Option Blk} (h : flK B = true) : ∃ c n e u r, B = some (.row c n e u r false) := by
 unfold flK at h
 split at h
 ·rename_i c n e u r fl
  cases fl with
  | true => cases h
  | false => exact ⟨c, n, e, u, r, rfl⟩
 ·cases h
theorem Y_8 {h : Hs} {v : Value} (hv : OwnSl h v 89 4 true 2 (I_r 1 ++ I_r 2)) (hid : ∀ b, vId v = some b → b < h.nx) : ∃ s c, v = .slice (some ⟨s 0, 0, none⟩) 2 c ∧ 2 ≤ c ∧ Emb s (B_g mBld) h := by
 obtain ⟨_, o⟩ := hv
 rcases o with ⟨_, z⟩ | ⟨id, c, cs, sz, f, rfl, hc, hb, hf, hsz, hg⟩
 ·cases z
 ·refine ⟨fun _ => id, c, rfl, hc, fun i b0 hb0 => ?_, fun i _ => hid id rfl, fun i i' b b' hb hb' hr _ => ?_⟩
  ·rw [B_q] at hb0
   cases i with
   | zero =>
    injection hb0 with hb0
    subst hb0
    refine ⟨Nat.zero_lt_one, _, hb, .row _ _ _ _ _ _ _ _ _ _ (fun h => by cases h) (fun h => by cases h) fun i v0 hv => ?_⟩
    rw [get_ofList] at hv
    have il : i < 8 := (List.getElem?_eq_some_iff.1 hv).1
    refine ⟨v0, (hg i il).trans hv, ?_⟩
    match i, il, hv with
    | 0, _, hv => injection hv with hv; subst hv; exact .int _ _
    | 1, _, hv => injection hv with hv; subst hv; exact .int _ _
    | 2, _, hv => injection hv with hv; subst hv; exact .nilslice
    | 3, _, hv => injection hv with hv; subst hv; exact .nilslice
    | 4, _, hv => injection hv with hv; subst hv; exact .int _ _
    | 5, _, hv => injection hv with hv; subst hv; exact .int _ _
    | 6, _, hv => injection hv with hv; subst hv; exact .nilslice
    | 7, _, hv => injection hv with hv; subst hv; exact .nilslice
   | succ i => cases hb0
  ·rw [B_q] at hb
   cases i with
   | zero => exact absurd hr (by injection hb with hb; rw [← hb]; exact Bool.false_ne_true)
   | succ i => cases hb
theorem f_b {n : Nat} {s : Nat → Nat} {w : Bool} {k : IntKind} {z : Int} {v : Value} (h : VW n s w (.int k z) v) : v = .int k z := by cases h; rfl
theorem f_1 {n id o : Nat} {s : Nat → Nat} {w : Bool} {v : Value} (h : VW n s w (.pointer (some ⟨id, o, none⟩)) v) : v = .pointer (some ⟨s id, o, none⟩) := by cases h; rfl
theorem R_g {N n j : Nat} {s2 : Nat → Nat} {l0 l : List Value} (w2 : VWs N s2 (.int .i64 (.ofNat (j + 4)) :: l0) (.int .i64 (.ofNat (n + 4)) :: l)) : j = n := by
 cases w2 with
 | cons h3 _ =>
  have := f_b h3
  injection this with _ e
  have e : n + 4 = j + 4 := Int.ofNat.inj e
  omega
theorem Y_u (s : Nat → Nat) (h : Hs) : Emb s (B_g []) h := ⟨fun i b g => by have := D_f g; simp at this, fun i hi => by have hi : i < 0 := hi; omega, fun i i' b b' g => by have := D_f g; simp at this⟩
variable {R : RnK} {R0 : FuncId → List Value → Hs → An}
theorem m_c (rn : ImR R0) (fm : ImF R R0) {n : Nat} (h1 : 4 ≤ n) (h2 : n ≤ 64) : CBuild2 R n := fun h v own hid => by
 obtain ⟨k, rfl⟩ : ∃ k, n = k + 4 := ⟨n - 4, by omega⟩
 obtain ⟨s, c, rfl, hc, E⟩ := Y_8 own hid
 obtain ⟨v0, h0', r, hq⟩ := G_3 (rn.bld k (by omega))
 obtain ⟨t, rfl, a1, a2, a3, a4⟩ := d_f hq
 have ar : VWs 1 s (aBld k) [.int .i64 (.ofNat (k + 4)), .slice (some ⟨s 0, 0, none⟩) 2 c] := .cons (.int _ _) (.cons (.slice 0 0 2 2 c (by decide) (Nat.le_refl _) hc (.inl rfl)) .nil)
 refine (w_fm (fun o ho => fm.bld _ _ o ho) k (by omega) E ar rfl (fun j s2 hj E2 w2 => ⟨by rw [R_g w2], rfl⟩) r).mono fun v u ⟨g1, g2⟩ => ?_
 obtain ⟨y, z, rfl, y1, z1⟩ := g1.tup2_inv
 obtain ⟨yp, _⟩ := y1.ptr_inv
 rw [VW.int_inv (show VW _ _ _ (.int .i64 (.ofNat 0)) z from z1), yp]
 have E0 := Z_q a1
 have E' := g2.emb E r.nx E0 (R_x r.hold)
 have ge := i_1 a3
 have t1 : 1 ≤ t := ge 0 (by show 0 < 6; decide)
 have tl : t < h0'.nx := E0.lt 0 (by show 0 < 6; decide)
 refine ⟨_, rfl, E', fun id hid => ?_, g2.same a4, ?_⟩
 ·show h.nx ≤ B_1 s 1 h.nx (nthM (lN h0' t) id)
  unfold B_1
  have := ge id hid
  rw [if_neg (by omega)]; omega
 ·obtain ⟨c0, n0, e0, u0, r0, q⟩ := g_h a2
  rw [B_o] at q
  rcases g2.new t (.inl ⟨t1, tl⟩) with ⟨q1, _⟩ | ⟨b0, b, q1, q2, q3⟩
  ·rw [q] at q1; cases q1
  ·rw [q] at q1
   injection q1 with q1
   subst q1
   cases q3 with
   | row => exact ⟨_, _, _, _, _, q2⟩
theorem l_5 (rn : ImR R0) (fm : ImF R R0) {n : Nat} {h : Hs} (h1 : 4 ≤ n) (h2 : n ≤ 64) : WP (R 13 [.int .i64 (.ofNat n)] h) fun v u => ∃ t, v = .pointer (some ⟨t 0, 0, none⟩) ∧ Emb t (B_g (tB n)) u ∧ (∀ id, id < 6 → h.nx ≤ t id) ∧ Same h u := by
 obtain ⟨k, rfl⟩ : ∃ k, n = k + 4 := ⟨n - 4, by omega⟩
 obtain ⟨v0, h0', r, hq⟩ := G_3 (rn.new k (by omega))
 unfold qNw at hq
 split at hq
 ·rename_i t
  have ar : VWs 0 id (aNw k) [.int .i64 (.ofNat (k + 4))] := .cons (.int _ _) .nil
  refine (w_fm (fun o ho => fm.new _ _ o ho) k (by omega) (Y_u id h) ar rfl (fun j s2 hj E2 w2 => ⟨by rw [R_g w2], rfl⟩) r).mono fun v u ⟨g1, g2⟩ => ?_
  obtain ⟨yp, _⟩ := g1.ptr_inv
  have E' := g2.emb (Y_u id h) r.nx (Z_q hq) (R_x r.hold)
  refine ⟨_, yp, E', fun id _ => ?_, g2.same (Nat.zero_le _)⟩
  show h.nx ≤ B_1 _ 0 h.nx _
  unfold B_1
  rw [if_neg (by omega)]; omega
 ·cases hq
theorem a_b {k j : Nat} {s s2 : Nat → Nat} {h : Hs} {a : List Value} (E : Emb s (B_g (mSm k)) h) (E2 : Emb s2 (B_g (mSm j)) h) (w : VWs 12 s aSm a) (w2 : VWs 12 s2 aSm a) : mSm j = mSm k := by
 have e0 : s 0 = s2 0 := by
  unfold aSm at w w2
  cases w with
  | cons p _ =>
   cases w2 with
   | cons p2 _ =>
    have q1 := f_1 p
    have q2 := f_1 p2
    rw [q1] at q2
    injection q2 with q2
    injection q2 with q2
    injection q2
 have ge : ∀ (m : Nat) (s : Nat → Nat), Emb s (B_g (mSm m)) h → ∃ c n e u r f, h.hp.get (s 0) = some (.row c n e u r f) ∧ c.get 0 = some (.int .i64 (.ofNat (m + 4))) := fun m s E => by
  obtain ⟨_, y, q1, q2⟩ := E.at_ 0 _ (by rw [B_q]; rfl)
  cases q2 with
  | row _ cs _ sz _ _ _ rw_ _ f hrw _ hc =>
   obtain ⟨v', a, b⟩ := hc 0 (.int .i64 (.ofNat (m + 4))) (by rw [get_ofList]; rfl)
   exact ⟨cs, sz, _, _, rw_, f, q1, by rw [a, f_b b]⟩
 obtain ⟨c, n, e, u, r, f, q1, q2⟩ := ge k s E
 obtain ⟨c', n', e', u', r', f', q1', q2'⟩ := ge j s2 E2
 rw [← e0, q1] at q1'
 injection q1' with q1'
 injection q1' with q3
 subst q3
 rw [q2] at q2'
 injection q2' with q2'
 injection q2' with _ q2'
 have q2' : k + 4 = j + 4 := Int.ofNat.inj q2'
 have : k = j := by omega
 rw [this]
theorem m_n (k : Nat) : pinK aSm (mSm k) = true := by kernel_rfl
theorem k_7 (rn : ImR R0) (fm : ImF R R0) {n M : Nat} {h : Hs} {t t2 : Nat → Nat} (h1 : 4 ≤ n) (h2 : n ≤ 64) (E : Emb t (B_g (tB n)) h) (hs : ∀ id, id < 6 → t id < M) (E2 : Emb t2 (B_g (tB n)) h) (hs2 : ∀ id, id < 6 → M ≤ t2 id) :
 WP (R 12 [.pointer (some ⟨t 0, 0, none⟩), .pointer (some ⟨t2 0, 0, none⟩)] h) fun v u => v = .bool true ∧ Sm h u := by
 obtain ⟨k, rfl⟩ : ∃ k, n = k + 4 := ⟨n - 4, by omega⟩
 have EU := h_w E hs E2 hs2
 obtain ⟨v0, h0', r, hq⟩ := G_3 (rn.same k (by omega))
 unfold qSm at hq
 obtain ⟨a1, a2⟩ := A_c hq
 obtain ⟨a2, a3⟩ := A_c a2
 have e0 := N_g a1
 subst e0
 have ar : VWs 12 (sU t t2) aSm [.pointer (some ⟨t 0, 0, none⟩), .pointer (some ⟨t2 0, 0, none⟩)] := .cons (.ptr 0 0 (by decide)) (.cons (.ptr 6 0 (by decide)) .nil)
 refine (w_fm (fun o ho => fm.same _ _ o ho) k (by omega) EU ar (m_n k) (fun j s2 hj E3 w2 => ⟨rfl, a_b EU E3 ar w2⟩) r).mono fun v u ⟨g1, g2⟩ => ?_
 exact ⟨VW.bool_inv g1, g2.sm (Nat.eq_of_beq_eq_true a2) (Nat.le_of_ble_eq_true a3)⟩
set_option linter.unusedSimpArgs false
def COwnG (R : RnK) : Prop := ∀ (g : Geo) (h : Hs), R 10 [g.v] h = some (.val g.v h)
theorem g_4 {R : RnK} {N : Nat} {g : Geo} {h : Hs} : r10 R N [g.v] h = some (.val g.v h) := by
 refine WP.eqn ?_
 unfold r10 Geo.v
 have H := Sto.enter h
 repeat' (first | (with_reducible first | refine A_0 ?_ | refine A_3 ?_ | refine A_e ?_) | ((with_reducible apply A_9) ; rfl; (try dsimp only [splice, ev, A_b, rep, List.cons_append, List.nil_append])) | ((with_reducible refine A_8 H ?_) ; (clear H; intro u H hu)) | ((with_reducible refine A_z H ?_) ; (clear H; intro u H hu)) | ((with_reducible apply A_i 0 H) ; rfl; rfl; rfl; omega; rfl; (clear H; intro u H hu; (try dsimp only [List.set_cons_zero, List.set_cons_succ, A_b, List.toList_toArray, splice, ev, rep, List.cons_append, List.nil_append] at H))) | ((with_reducible apply B_9 0 H) ; rfl; rfl; rfl) | ((with_reducible apply A_q 1 H) ; rfl; rfl; rfl))
 exact A_u H rfl ⟨rfl, rfl⟩
def CMakeR (R : RnK) : Prop := ∀ (g : Geo) (h : Hs), g.Ok → WP (R 9 [g.v] h) fun v h' => New h h' (OW v (V_r g))
def CTree (R : RnK) : Prop := ∀ (g : Geo) (s : Value) (h : Hs), g.Ok → Rd h s 1 (Wl (D_b g)) → WP (R 11 [imgV g s] h) fun v u => TreeNew g.n h u v
theorem c_8 {R : RnK} {R0 : FuncId → List Value → Hs → An} {N : Nat} (rn : ImR R0) (fm : ImF R R0) (cg : CGood R) (cgn : CGoodNeg R) (cm : CMake R) (cmn : CMakeNo R) (co : COpen R) (cow : COwnG R) (cmr : CMakeR R) (csm : CSame R) (ct : CTree R) {b n c k : Int}
 (aw : ∀ cs, R 4 [] (Gev.newRow ⟨.e, 0, 0⟩ 23 0 cs) = some (.val (.bool true) (Gev.newRow ⟨.e, 0, 0⟩ 23 0 cs))) :
 r3 R N [gI b n c k] ⟨.e, 0, 0⟩ = some (.val (.bool true) ⟨.e, 0, 0⟩) := by
 refine WP.eqn ?_
 unfold r3 gI
 refine A_0 ?_
 refine A_3 ?_
 have H := (Sto.enter ⟨.e, 0, 0⟩).row 23 0 [.int .i64 b, .int .i64 n, .int .i64 c, .int .i64 k]
 refine w_rs (v := .pointer (some ⟨0, 0, none⟩)) (h := Gev.newRow ⟨.e, 0, 0⟩ 23 0 [.int .i64 b, .int .i64 n, .int .i64 c, .int .i64 k]) rfl ?_
 refine A_n (aw _) ?_
 have H : Sto ⟨.e, 0, 0⟩ [] (Gev.newRow ⟨.e, 0, 0⟩ 23 0 [.int .i64 b, .int .i64 n, .int .i64 c, .int .i64 k]) [.blk 0 (.row 23 0 true true [.int .i64 b, .int .i64 n, .int .i64 c, .int .i64 k])] := H
 generalize Gev.newRow ⟨.e, 0, 0⟩ 23 0 [.int .i64 b, .int .i64 n, .int .i64 c, .int .i64 k] = u0 at H ⊢
 have no := cmn b n c k
 unfold gI at no
 rcases k_w b n c k with q | ⟨g, q1, q2, x⟩
 ·have bg := fun u => R_z cg cgn q u
  unfold gI at bg
  repeat' (first | (refine A_n (no _ q) ?_) | (refine A_n (bg _) ?_) | (with_reducible first | refine w_jn ?_ | refine A_l ?_ | refine A_j ?_ | refine E_q ?_ | refine A_5 ?_ | refine B_k ?_ | refine B_u ?_ | refine C_s ?_) | ((with_reducible apply B_i) ; rfl) | ((with_reducible refine B_p (fun _ => ?_) (fun _ => ?_)) <;> first | (exfalso; omega) | skip) | ((with_reducible apply A_f 0 H) ; rfl; rfl; rfl))
  exact A_u H rfl ⟨rfl, rfl⟩
 ·have m := cm g
  have cgg := cg g
  have cowg := cow g
  have cmg := cmr g
  rw [← q1] at m cgg cowg cmg
  unfold gI at m cgg cowg cmg
  repeat' (first | (with_reducible first | refine w_jn ?_ | refine A_j ?_ | refine B_k ?_) | ((with_reducible apply A_f 0 H) ; rfl; rfl; rfl))
  refine A_1 (m _ x) fun r u1 hm => ?_
  obtain ⟨s, rfl, n1⟩ := hm
  replace H := H.call n1
  obtain ⟨f1, f2, f3⟩ := G_r x
  have h1 := x.1.b1; have h2 := x.1.b2
  have h3 := x.1.n1; have h4 := x.1.n2
  obtain ⟨sa, sc, rfl⟩ := n1.2.1.form
  clear n1 m no
  repeat' (first | ((with_reducible apply B_i) ; rfl) | ((with_reducible apply A_f 1 H) ; rfl; rfl; rfl))
  refine B_a (cgg _) (fun _ => ?_) (fun q => absurd x q)
  repeat' (first | (with_reducible first | refine w_jn ?_ | refine A_j ?_ | refine B_k ?_))
  have rd := H.rdO 0 rfl
  rw [← B_n] at rd
  refine A_1 ((co (D_b g) _ _ f2 (by omega) rd).1 g (Q_l x)) fun r2 u3 n2 => ?_
  obtain ⟨s2, rfl, n2⟩ := n2
  unfold OW at n2
  rw [f1] at n2
  obtain ⟨a2, c2, rfl⟩ := n2.2.1.form
  replace H := H.call n2
  unfold imgV
  clear n2 rd
  repeat' (first | (refine A_n (cowg _) ?_) | (with_reducible first | refine C_3 ?_ | refine A_4 ?_) | ((with_reducible apply B_i) ; rfl) | ((with_reducible refine A_z H ?_) ; (clear H; intro u H hu)) | ((with_reducible refine C_y (fun _ => ?_) (fun _ => ?_)) <;> first | (exfalso; omega) | skip) | ((with_reducible apply A_i 0 H) ; rfl; rfl; rfl; omega; rfl; (clear H; intro u H hu; (try dsimp only [List.set_cons_zero, List.set_cons_succ, A_b, List.toList_toArray, splice, ev, rep, List.cons_append, List.nil_append] at H))) | ((with_reducible apply A_f 3 H) ; rfl; rfl; rfl))
  have qn : n = (g.n : Int) := by
   have q1' := q1
   simp [gI, Geo.v] at q1'
   exact q1'.2.1
  refine A_1 (cmg _ x) fun v4 u4 n4 => ?_
  rw [Q_n x] at n4
  unfold OW at n4
  rw [f1] at n4
  obtain ⟨a4, c4, rfl⟩ := n4.2.1.form
  replace H := H.call n4
  repeat' (first | (with_reducible refine C_3 ?_))
  have r1 := H.rdO 3 rfl
  have r2 := H.rdO 0 rfl
  rw [← B_n] at r1 r2
  refine B_a (csm (D_b g) (D_b g) _ _ _ (by omega) r1 r2) (fun _ => ?_) (fun q => absurd rfl q)
  repeat' (first | (with_reducible first | refine w_jn ?_ | refine A_j ?_ | refine C_3 ?_ | refine A_4 ?_ | refine B_k ?_) | ((with_reducible apply A_f 1 H) ; rfl; rfl; rfl))
  have r3 := H.rdO 2 rfl
  rw [← B_n] at r3
  have ctg := ct g (.slice a2 (8 * g.b) c2) _ x r3
  unfold imgV at ctg
  refine A_1 ctg fun v5 u5 hv => ?_
  obtain ⟨t, rfl, E, ge, sm, _⟩ := hv
  replace H := H.same sm
  repeat' (first | (with_reducible refine E_q ?_) | ((with_reducible apply B_i) ; rfl) | ((with_reducible refine B_p (fun _ => ?_) (fun _ => ?_)) <;> first | (exfalso; omega) | skip))
  refine w_ob (v := .bool true) rfl ?_
  repeat' (first | (with_reducible first | refine E_q ?_ | refine A_5 ?_ | refine A_e ?_) | ((with_reducible apply A_q 4 H) ; rfl; rfl; rfl))
  rw [show Value.int .i64 n = .int .i64 (.ofNat g.n) from by rw [qn]; rfl]
  refine A_1 (l_5 rn fm h3 h4) fun v6 u6 hv => ?_
  obtain ⟨t2, rfl, E2, ge2, sm2⟩ := hv
  replace H := H.same sm2
  repeat' (first | (with_reducible refine E_q ?_))
  refine A_1 (k_7 rn fm h3 h4 (E.ext sm2.1.1 sm2.1.2) (fun id hid => E.lt id hid) E2 ge2) fun v7 u7 hv => ?_
  obtain ⟨rfl, sm7⟩ := hv
  replace H := H.same sm7.same
  repeat' (first | (with_reducible refine A_5 ?_))
  exact A_u H rfl ⟨rfl, rfl⟩
end Go.Proofs.YtdgcebfncbmbfaaGreatDoor.imageMakes

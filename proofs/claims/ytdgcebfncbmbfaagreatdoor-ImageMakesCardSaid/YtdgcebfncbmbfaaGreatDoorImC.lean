/- Contracts of functions, by the logic of residual programs. -/
import Derived.Test.YtdgcebfncbmbfaaGreatDoorImB
namespace Go.Proofs.YtdgcebfncbmbfaaGreatDoor.imageMakes
open Go Go.Gev
set_option linter.unusedVariables false
set_option linter.unusedSimpArgs false
def zero8 : List Nat := List.replicate 8 0
def zS : List Value := [.int .i64 (.ofNat 0), .string ⟨#[]⟩]
def Sz (n : Nat) : List Value := (List.replicate n zS).flatten
theorem g_x (n : Nat) : Sz (n + 1) = Sz n ++ zS := by unfold Sz; rw [List.replicate_succ', List.flatten_append]; rfl
def aGz (_ : Nat) : List Value := [.slice (some ⟨0, 0, none⟩) 8 8]
def mGz : List SB := [.row 50 1 false (Wc zero8)]
def gzV : Value := .tuple #[.agg #[.int .i64 (.ofNat 0), .string ⟨#[]⟩], .bool true]
noncomputable def qGz (v : Value) (h : Hs) : Bool := andK (eqV v gzV) (andK (Nat.beq h.nx 1) (Nat.ble 1 h.lo))
def KGz (R0 : List Value → Hs → An) : Runs0 := KI (fun _ => True) aGz (fun _ => mGz) R0
def GzR (R0 : FuncId → List Value → Hs → An) : Prop := H_n (R0 69) (aGz 0) mGz qGz = true
def GzF (R : RnK) (R0 : FuncId → List Value → Hs → An) : Prop := ∀ a h o, fmG (KGz (R0 69)) a h = some o → R 69 a h = some o
def CGetZ (R : RnK) : Prop := ∀ (h : Hs) (v : Value), OwnSl h v 50 1 true 8 (Wc zero8) → (∀ b, vId v = some b → b < h.nx) → WP (R 69 [v] h) fun r u => r = gzV ∧ Sm h u
theorem h_n {n : Nat} {s : Nat → Nat} {a b v : Value} (h : VW n s false (.agg #[a, b]) v) : ∃ x y, v = .agg #[x, y] ∧ VW n s false a x ∧ VW n s false b y := by
 cases h with
 | agg _ ys h1 h2 =>
  obtain ⟨ys⟩ := ys
  rcases ys with _ | ⟨x, _ | ⟨y, _ | ⟨z, ys⟩⟩⟩
  ·simp at h1
  ·simp at h1
  ·exact ⟨x, y, rfl, by simpa using h2 0 (by simp) (by simp), by simpa using h2 1 (by simp) (by simp)⟩
  ·simp at h1
theorem i_8 {R : RnK} {R0 : FuncId → List Value → Hs → An} (rn : GzR R0) (fm : GzF R R0) : CGetZ R := fun h v own hid => by
 obtain ⟨_, o⟩ := own
 rcases o with ⟨_, z⟩ | ⟨id, c, cs, sz, f, rfl, hc, hb, hf, hsz, hg⟩
 ·cases z
 ·have E : Emb (fun _ => id) (B_g mGz) h := by
   refine ⟨fun i b0 hb0 => ?_, fun i _ => hid id rfl, fun i i' b b' hb hb' hr _ => ?_⟩
   ·rw [B_q] at hb0
    cases i with
    | zero =>
     injection hb0 with hb0
     subst hb0
     refine ⟨Nat.zero_lt_one, _, hb, .row _ _ _ _ _ _ _ _ _ _ (fun h => by cases h) (fun h => by cases h) fun i v0 hv => ?_⟩
     rw [get_ofList] at hv
     have il : i < (Wc zero8).length := (List.getElem?_eq_some_iff.1 hv).1
     refine ⟨v0, (hg i il).trans hv, ?_⟩
     unfold Wc at hv
     rw [List.getElem?_map] at hv
     cases hx : zero8[i]? with
     | none => rw [hx] at hv; cases hv
     | some x => rw [hx] at hv; injection hv with hv; subst hv; exact .int _ _
    | succ i => cases hb0
   ·rw [B_q] at hb
    cases i with
    | zero => exact absurd hr (by injection hb with hb; rw [← hb]; exact Bool.false_ne_true)
    | succ i => cases hb
  obtain ⟨v0, h0', r, hq⟩ := G_3 rn
  obtain ⟨a1, a2⟩ := A_c hq
  obtain ⟨a2, a3⟩ := A_c a2
  have e0 := N_g a1
  subst e0
  have ar : VWs 1 (fun _ => id) (aGz 0) [.slice (some ⟨id, 0, none⟩) 8 c] := .cons (.slice 0 0 8 8 c (by decide) (Nat.le_refl _) hc (.inl rfl)) .nil
  refine (w_fm (fun o ho => fm _ _ o ho) 0 trivial E ar rfl (fun j s2 hj E2 w2 => ⟨rfl, rfl⟩) r).mono fun v u ⟨g1, g2⟩ => ?_
  refine ⟨?_, g2.sm (Nat.eq_of_beq_eq_true a2) (Nat.le_of_ble_eq_true a3)⟩
  obtain ⟨y, z, rfl, y1, z1⟩ := VW.tup2_inv (show VW _ _ false (.tuple #[.agg #[.int .i64 (.ofNat 0), .string ⟨#[]⟩], .bool true]) v from g1)
  obtain ⟨p, q, rfl, p1, q1⟩ := h_n y1
  rw [z1.bool_inv, p1.int_inv]
  cases q1
  rfl
def CSlots (R : RnK) : Prop := ∀ (g : Geo) (l : List Nat) (s : Value) (i : Nat) (d : Nd) (h : Hs), g.Ok → l.length = 8 * g.b → Small l → Rd h s 1 (Wl l) → i ≤ 100000 → INode g l i d → d.ty = 2 → d.sz ≤ 4096 → (∀ k, k < d.sz → (E_1 d.rs k).getD 0 < g.b ∧ B_s l ((E_1 d.rs k).getD 0) = zero8) →
 WP (R 40 [imgV g s, .int .i64 (.ofNat i)] h) fun v h' => New h h' (.osl v 93 2 true d.sz (Sz d.sz))
theorem b_n {R : RnK} {N : Nat} (ci : CImgNode R) (ca : CAt R) (cb : CBlock R) (cg : CGetZ R) {g : Geo} {l : List Nat} {s : Value} {i : Nat} {d : Nd} {h : Hs} (hN : 100000 < N) (x : g.Ok) (hl : l.length = 8 * g.b) (sm : Small l) (r : Rd h s 1 (Wl l)) (hi : i ≤ 100000) (hd : INode g l i d) (ty : d.ty = 2) (sz : d.sz ≤ 4096) (hk : ∀ k, k < d.sz → (E_1 d.rs k).getD 0 < g.b ∧ B_s l ((E_1 d.rs k).getD 0) = zero8) :
 WP (r40 R N [imgV g s, .int .i64 (.ofNat i)] h) fun v h' => New h h' (.osl v 93 2 true d.sz (Sz d.sz)) := by
 have cio := fun u rr => (ci g l s i u x hl sm rr hi).1 d hd
 have cbg := cb g l s
 unfold r40
 unfold imgV at cio cbg ⊢
 have H := Sto.enter1 r
 have h1 := x.1.b2
 have h4 := x.1.num
 have gr := N_2 x hd.2.2.2
 have cnt : Cnt d.rs := fun r hr => by have := gr r hr; omega
 have dl := b_w (F_h hd.2.2.1).1
 refine A_0 ?_
 refine A_0 ?_
 refine A_3 ?_
 refine A_8 H ?_
 clear H; intro u1 H hu1
 repeat' (first | ((with_reducible apply A_f 0 H) ; rfl; rfl; rfl))
 refine A_1 (cio _ (H.rd 1 rfl)) fun v4 u4 hv => ?_
 obtain ⟨a0, c0, rfl, n4⟩ := hv
 replace H := H.call n4.rl
 unfold Nd.v
 repeat' (first | (with_reducible first | refine w_jn ?_ | refine A_j ?_ | refine C_3 ?_ | refine A_4 ?_ | refine B_k ?_ | refine A_e ?_) | ((with_reducible apply B_i) ; rfl) | ((with_reducible refine A_z H ?_) ; (clear H; intro u H hu)) | ((with_reducible refine C_y (fun _ => ?_) (fun _ => ?_)) <;> first | (exfalso; omega) | skip) | ((with_reducible apply A_q 0 H) ; rfl; rfl; rfl) | ((with_reducible apply A_i 0 H) ; rfl; rfl; rfl; omega; rfl; (clear H; intro u H hu; (try dsimp only [List.set_cons_zero, List.set_cons_succ, A_b, List.toList_toArray, splice, ev, rep, List.cons_append, List.nil_append] at H))))
 replace H := H.nilS 93 2
 obtain ⟨m0, hm0, H0⟩ : ∃ m0, m0 = _ ∧ Sto h [] _ m0 := ⟨_, rfl, H⟩
 refine C_d (Good := fun n (self : L6) => ∀ (j : Nat) (y1 y2 y3 cur y5 : Value) (w : Hs), j + n = d.sz → Sto h [] w (m0.set 0 (.osl cur 93 2 true j (Sz j))) → WP (self (.int .i64 (.ofNat j)) y1 y2 y3 cur y5 w) (fun v h' => New h h' (.osl v 93 2 true d.sz (Sz d.sz)))) (fun n self ih j y1 y2 y3 cur y5 w hj H1 => ?_) N d.sz (by omega) 0 _ _ _ _ _ _ (by omega) (by rw [hm0]; exact H)
 clear H0 H
 have hm1 := hm0
 rw [hm0] at H1
 have H := H1
 clear H1
 dsimp only [List.set_cons_zero, List.set_cons_succ] at H
 obtain ⟨ac, cc, rfl⟩ := (show OwnSl w cur 93 2 _ _ _ from H.ok _ (List.mem_of_getElem? (i := 0) rfl)).form
 repeat' (first | (with_reducible first | refine w_jn ?_ | refine A_l ?_ | refine A_j ?_ | refine A_e ?_) | ((with_reducible refine A_r (fun _ => ?_) (fun _ => ?_)) <;> first | (exfalso; omega) | skip) | ((with_reducible apply A_q 1 H) ; rfl; rfl; rfl))
 ·have kj := hk j (by omega)
  have kb := kj.1
  refine A_n (ca d.rs j _ _ cnt (by omega) (by omega) (H.rd 2 rfl)) ?_
  generalize hat : (E_1 d.rs j).getD 0 = at_ at *
  repeat' (first | ((with_reducible apply B_i) ; rfl) | ((with_reducible apply A_f 3 H) ; rfl; rfl; rfl))
  refine A_1 (cbg at_ _ (by omega) (H.rd 4 rfl) (by omega)) fun v5 u5 n5 => ?_
  rw [kj.2] at n5
  refine A_1 (cg _ _ n5.2.1 fun b hb => (n5.2.2 b hb).2) fun v6 u6 hv => ?_
  obtain ⟨rfl, sm6⟩ := hv
  replace H := (H.call n5).same sm6.same
  unfold gzV
  repeat' (first | ((with_reducible apply B_i) ; rfl) | ((with_reducible refine A_z H ?_) ; (clear H; intro u H hu)) | ((with_reducible apply C_e H) ; rfl; (clear H; intro u H hu; (try dsimp only [List.set_cons_zero, List.set_cons_succ, A_b, List.toList_toArray, splice, ev, rep, List.cons_append, List.nil_append] at H))) | ((with_reducible apply A_i 0 H) ; rfl; rfl; rfl; omega; rfl; (clear H; intro u H hu; (try dsimp only [List.set_cons_zero, List.set_cons_succ, A_b, List.toList_toArray, splice, ev, rep, List.cons_append, List.nil_append] at H))) | ((with_reducible apply A_f 0 H) ; rfl; rfl; rfl))
  refine D_u 3 0 H rfl rfl rfl rfl (by omega) (by omega) fun v3 u6 H4 hn4 => ?_
  clear H
  have H := H4
  clear H4
  dsimp only [List.set_cons_zero, List.set_cons_succ] at H
  replace H := H.sel [3, 4, 5, 6, 7] 8 rfl (by decide) (by decide); dsimp only [List.filterMap_cons, List.filterMap_nil, List.getElem?_cons_zero, List.getElem?_cons_succ] at H
  rw [show Sz j ++ [Value.int .i64 (.ofNat 0), .string ⟨#[]⟩] = Sz (j + 1) from (g_x j).symm] at H
  repeat' (first | ((with_reducible refine A_m ?_ ?_) ; omega))
  refine ih (n - 1) (by omega) (j + 1) _ _ _ _ _ _ (by omega) ?_
  rw [hm1]
  exact H
 ·obtain rfl : j = d.sz := by omega
  exact F_c 0 H rfl fun v' h' n => n
end Go.Proofs.YtdgcebfncbmbfaaGreatDoor.imageMakes

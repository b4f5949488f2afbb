/- Contracts of functions, by the logic of residual programs. -/
import Derived.Test.YtdgcebfncbmbfaaGreatDoorImC
namespace Go.Proofs.YtdgcebfncbmbfaaGreatDoor.imageMakes
open Go Go.Gev
set_option linter.unusedVariables false
def CTurn (R : RnK) : Prop := ∀ (x : Nat) (h : Hs), x < 18446744073709551616 → R 105 [.int .u64 (.ofNat x), .int .i64 (.ofNat 9)] h = some (.val (.int .u64 (.ofNat (rot x 9))) h)
theorem f_8 {R : RnK} {N : Nat} {x : Nat} {h : Hs} (hx : x < 18446744073709551616) : r105 R N [.int .u64 (.ofNat x), .int .i64 (.ofNat 9)] h = some (.val (.int .u64 (.ofNat (rot x 9))) h) := by
 refine WP.eqn ?_
 unfold r105
 have H := Sto.enter h
 have e1 : 9 % 64 = 9 := rfl
 repeat' (first | (with_reducible first | refine w_jn ?_ | refine A_j ?_ | refine A_0 ?_ | refine A_3 ?_) | ((with_reducible first | refine A_r (fun _ => ?_) (fun _ => ?_) | refine B_p (fun _ => ?_) (fun _ => ?_)) <;> first | (exfalso; omega) | skip) | ((with_reducible first | refine F_8 ?_ ?_ | refine K_s ?_ ?_ | refine a_m ?_ ?_ | refine M_d ?_ ?_) ; omega) | ((with_reducible refine C_n ?_ ?_ ?_) ; omega; omega))
 rw [e1]
 repeat' (first | ((with_reducible refine O_3 ?_ ?_ ?_) ; omega; omega))
 exact A_u H rfl ⟨rfl, rfl⟩
def CSealR (R : RnK) : Prop := ∀ (s : Nat) (l : List Nat) (v : Value) (h : Hs), s < 18446744073709551616 → Small l → l.length < 100000 → Rd h v 1 (Wl l) → R 85 [.int .u64 (.ofNat s), v] h = some (.val (.int .u64 (.ofNat (F_a s l))) h)
theorem e_n {R : RnK} {N : Nat} (c : CTurn R) {s : Nat} {l : List Nat} {v : Value} {h : Hs} (hs : s < 18446744073709551616) (hl : Small l) (hr : Rd h v 1 (Wl l)) (hN : l.length < N) (hb : l.length < 1000000) :
 r85 R N [.int .u64 (.ofNat s), v] h = some (.val (.int .u64 (.ofNat (F_a s l))) h) := by
 refine WP.eqn ?_
 unfold r85
 have H := Sto.enter1 hr
 have e := C_w l
 repeat' (first | (with_reducible first | refine w_jn ?_ | refine A_0 ?_ | refine A_3 ?_))
 refine C_d (Good := fun n (self : L3) => ∀ (i s : Nat) (x : Value), i + n = l.length → s < 18446744073709551616 → WP (self (.int .i64 (.ofNat i)) x (.int .u64 (.ofNat s)) ⟨h.hp, h.nx, h.nx⟩) (fun v' h' => v' = .int .u64 (.ofNat (F_a s (l.drop i))) ∧ h' = h)) (fun n self ih i s x hi hs => ?_) N l.length (by omega) 0 s _ (by omega) hs
 repeat' (first | (with_reducible first | refine w_jn ?_ | refine A_l ?_ | refine A_j ?_) | ((with_reducible refine A_r (fun _ => ?_) (fun _ => ?_)) <;> first | (exfalso; omega) | skip) | ((with_reducible apply D_l 0 H) ; rfl))
 ·have hi : i < l.length := by omega
  refine A_n (c _ _ hs) ?_
  have h1 := Z_v (s := 9) hs
  have h2 := hl l[i] (List.getElem_mem hi)
  repeat' (first | (with_reducible refine C_9 ?_))
  refine l_n 0 H rfl (I_f hi) rfl (fun b hb => by simp only [HidOk, and_true]; omega) ?_
  repeat' (first | ((with_reducible refine A_m ?_ ?_) ; omega) | ((with_reducible refine f_2 ?_ ?_ ?_) ; omega; omega))
  have e : F_a s (l.drop i) = F_a (rot s 9 ^^^ l[i]) (l.drop (i + 1)) := by rw [List.drop_eq_getElem_cons hi]; rfl
  rw [e]
  exact ih (n - 1) (by omega) (i + 1) _ _ (by omega) (a_0 h1 h2)
 ·rw [List.drop_of_length_le (by omega)]
  exact A_u H rfl ⟨rfl, rfl⟩
def COfR (R : RnK) : Prop := ∀ (l : List Nat) (v : Value) (h : Hs), Small l → l.length < 100000 → Rd h v 1 (Wl l) → R 58 [v] h = some (.val (.int .u64 (.ofNat (D_k l))) h)
theorem k_q {R : RnK} {N : Nat} (c : CSealR R) {l : List Nat} {v : Value} {h : Hs} (hl : Small l) (hb : l.length < 100000) (hr : Rd h v 1 (Wl l)) :
 r58 R N [v] h = some (.val (.int .u64 (.ofNat (D_k l))) h) := by
 refine WP.eqn ?_
 unfold r58
 have H := Sto.enter1 hr
 refine A_n (c 7811896474847682849 l _ _ (by omega) hl hb (H.rd 0 rfl)) ?_
 exact A_u H rfl ⟨rfl, rfl⟩
def CBitB (R : RnK) : Prop := ∀ (g : Geo) (h : Hs), g.b ≤ 100000 → R 56 [g.v] h = some (.val (.int .i64 (.ofNat g.bitsN)) h)
theorem g_m {R : RnK} {N : Nat} {g : Geo} {h : Hs} (x : g.b ≤ 100000) : r56 R N [g.v] h = some (.val (.int .i64 (.ofNat g.bitsN)) h) := by
 refine WP.eqn ?_
 unfold r56 Geo.v
 have H := Sto.enter h
 repeat' (first | (with_reducible first | refine A_0 ?_ | refine A_3 ?_ | refine A_e ?_) | ((with_reducible refine A_8 H ?_) ; (clear H; intro u H hu)) | ((with_reducible refine A_m ?_ ?_) ; omega) | ((with_reducible refine D_s ?_ ?_ ?_) ; omega; omega) | ((with_reducible apply A_q 0 H) ; rfl; rfl; rfl))
 exact A_u H rfl ⟨rfl, rfl⟩
def CMagic (R : RnK) : Prop := ∀ (h : Hs), R 57 [] h = some (.val (.int .u64 (.ofNat 5497010944029229057)) h)
theorem d_r {R : RnK} {N : Nat} {h : Hs} : r57 R N [] h = some (.val (.int .u64 (.ofNat 5497010944029229057)) h) := by
 refine WP.eqn ?_
 unfold r57
 have H := Sto.enter h
 repeat' (first | (with_reducible refine A_3 ?_))
 exact A_u H rfl ⟨rfl, rfl⟩
def CGoodR (R : RnK) : Prop := ∀ (g : Geo) (h : Hs), R 30 [g.v] h = some (.val (.bool (decide g.Ok)) h)
theorem d_n {R : RnK} {N : Nat} (cb : CBitB R) {g : Geo} {h : Hs} : r30 R N [g.v] h = some (.val (.bool (decide g.Ok)) h) := by
 refine WP.eqn ?_
 unfold r30 Geo.v
 have H := Sto.enter h
 have cbg := cb g
 unfold Geo.v at cbg
 repeat' (first | (with_reducible first | refine w_jn ?_ | refine A_l ?_ | refine A_j ?_ | refine G_d ?_ | refine C_3 ?_ | refine A_5 ?_ | refine A_4 ?_ | refine A_0 ?_ | refine A_3 ?_ | refine A_e ?_) | ((with_reducible refine A_8 H ?_) ; (clear H; intro u H hu)) | ((with_reducible first | refine A_r (fun _ => ?_) (fun _ => ?_) | refine E_8 (fun _ => ?_) (fun _ => ?_)) <;> first | (exfalso; omega) | skip) | ((with_reducible apply A_q 0 H) ; rfl; rfl; rfl))
 all_goals first
  | exact C_5 H (by unfold Geo.Ok; simp; intro x; have := x.1; have := x.2; have := x.3; have := x.4; have := x.5; have := x.6; have := x.7; have := x.8; omega)
  | skip
 have x : g.Box := ⟨by omega, by omega, by omega, by omega, by omega, by omega, by omega, by omega⟩
 have h1 := x.num
 have h2 := x.ck
 have h3 := x.b2
 have h4 := x.n2
 repeat' (first | (refine A_n (cbg _ (by omega)) ?_) | (with_reducible first | refine A_e ?_ | refine C_9 ?_) | ((with_reducible refine A_r (fun _ => ?_) (fun _ => ?_)) <;> first | (exfalso; omega) | skip) | ((with_reducible first | refine A_m ?_ ?_ | refine C_h ?_ ?_) ; omega) | ((with_reducible apply A_f 0 H) ; rfl; rfl; rfl) | ((with_reducible apply H_v 0 H) ; rfl; rfl; (intro _; simp only [HidOk, and_true]; omega)))
 all_goals exact C_5 H (by unfold Geo.Ok Geo.dataAt Geo.bitsAt; simp [x]; unfold Geo.bitsAt at h1; omega)
def CPutR (R : RnK) : Prop := ∀ (g : Geo) (ph : Nat) (h : Hs), ph < 18446744073709551616 → (g.Ok → WP (R 32 [g.v, .int .u64 (.ofNat ph)] h) fun v h' => New h h' (.osl v 50 1 true 8 (Wc (B_z g ph)))) ∧ (¬ g.Ok → R 32 [g.v, .int .u64 (.ofNat ph)] h = some (.val (.slice none 0 0) h))
theorem i_l {R : RnK} {N : Nat} (cg : CGoodR R) (cm : CMagic R) (cs : COfR R) {g : Geo} {ph : Nat} {h : Hs} (hp : ph < 18446744073709551616) (x : g.Ok) : WP (r32 R N [g.v, .int .u64 (.ofNat ph)] h) fun v h' => New h h' (.osl v 50 1 true 8 (Wc (B_z g ph))) := by
 have cgh := cg g
 unfold r32 Geo.v
 unfold Geo.v at cgh
 have H := Sto.enter h
 have h1 := x.1.b2; have h2 := x.1.n2; have h3 := x.1.c2; have h4 := x.1.k2
 repeat' (first | ((refine B_a (cgh _) (fun _ => ?_) (fun _ => ?_)) <;> first | (exfalso; omega) | skip) | (refine A_n (cm _) ?_) | (with_reducible first | refine w_jn ?_ | refine A_l ?_ | refine B_u ?_ | refine A_0 ?_ | refine A_3 ?_ | refine A_e ?_ | refine C_9 ?_) | ((with_reducible first | refine E_0 ?_ ?_ | refine K_s ?_ ?_) ; omega) | ((with_reducible refine A_8 H ?_) ; (clear H; intro u H hu)) | ((with_reducible apply C_e H) ; rfl; (clear H; intro u H hu; (try dsimp only [List.set_cons_zero, List.set_cons_succ, A_b, List.toList_toArray, splice, ev, rep, List.cons_append, List.nil_append] at H))) | ((with_reducible apply A_f 0 H) ; rfl; rfl; rfl) | ((with_reducible apply H_v 0 H) ; rfl; rfl; (intro _; simp only [HidOk, and_true]; omega)))
 ·have r := H.rdB (n := 6) (c := 6) 0 rfl rfl (by omega)
  refine A_n (cs [5497010944029229057, g.b, g.n, g.c, g.k, 0] _ _ (G_y (ph := ph) x.1 hp) (by simp) (Rd.lo r _)) ?_
  repeat' (first | ((with_reducible apply C_e H) ; rfl; (clear H; intro u H hu; (try dsimp only [List.set_cons_zero, List.set_cons_succ, A_b, List.toList_toArray, splice, ev, rep, List.cons_append, List.nil_append] at H))))
  have H2 := H.osl 1 rfl (n := 6) (c := 6) rfl (Nat.le_refl _)
  refine D_u 1 0 H2 rfl rfl rfl rfl (by omega) (by omega) fun v' u' H' hn => ?_
  exact F_c 1 H' rfl fun v' h' n => n
 ·exact absurd x ‹_›
theorem i_3 {R : RnK} {N : Nat} (cg : CGoodR R) {g : Geo} {ph : Nat} {h : Hs} (x : ¬ g.Ok) : r32 R N [g.v, .int .u64 (.ofNat ph)] h = some (.val (.slice none 0 0) h) := by
 refine WP.eqn ?_
 have cgh := cg g
 unfold r32 Geo.v
 unfold Geo.v at cgh
 have H := Sto.enter h
 repeat' (first | ((refine B_a (cgh _) (fun _ => ?_) (fun _ => ?_)) <;> first | (exfalso; omega) | skip) | (with_reducible first | refine w_jn ?_ | refine A_l ?_ | refine A_j ?_ | refine B_k ?_ | refine B_u ?_ | refine A_0 ?_ | refine A_3 ?_) | ((with_reducible refine A_8 H ?_) ; (clear H; intro u H hu)) | ((with_reducible apply A_f 0 H) ; rfl; rfl; rfl))
 ·exact absurd ‹_› x
 ·exact A_u H rfl ⟨rfl, rfl⟩
def CBitsR (R : RnK) : Prop := ∀ (g : Geo) (h : Hs), g.Ok → R 59 [g.v] h = some (.val (.tuple #[.int .i64 (.ofNat g.bitsAt), .int .i64 (.ofNat g.bitsN)]) h)
theorem c_g {R : RnK} {N : Nat} (cg : CGoodR R) (cb : CBitB R) {g : Geo} {h : Hs} (x : g.Ok) : r59 R N [g.v] h = some (.val (.tuple #[.int .i64 (.ofNat g.bitsAt), .int .i64 (.ofNat g.bitsN)]) h) := by
 refine WP.eqn ?_
 have cgh := cg g
 have cbh := cb g
 unfold r59 Geo.v
 unfold Geo.v at cgh cbh
 have H := Sto.enter h
 have h1 := x.1.ck
 have h2 := x.1.b2
 repeat' (first | ((refine B_a (cgh _) (fun _ => ?_) (fun _ => ?_)) <;> first | (exfalso; omega) | skip) | (refine A_n (cbh _ (by omega)) ?_) | (with_reducible first | refine w_jn ?_ | refine A_l ?_ | refine A_j ?_ | refine B_k ?_ | refine B_u ?_ | refine A_0 ?_ | refine A_3 ?_ | refine A_e ?_ | refine C_9 ?_) | ((with_reducible refine A_8 H ?_) ; (clear H; intro u H hu)) | ((with_reducible first | refine A_m ?_ ?_ | refine C_h ?_ ?_) ; omega) | ((with_reducible apply A_q 0 H) ; rfl; rfl; rfl) | ((with_reducible apply A_f 0 H) ; rfl; rfl; rfl))
 ·exact A_u H rfl ⟨rfl, rfl⟩
 ·exact absurd x ‹_›
def CNodeR (R : RnK) : Prop := ∀ (g : Geo) (i : Nat) (h : Hs), g.Ok → i ≤ 100000 → R 33 [g.v, .int .i64 (.ofNat i)] h = some (.val (.int .i64 (.ofNat (g.nodeAt i))) h)
theorem c_9 {R : RnK} {N : Nat} (cg : CGoodR R) (cb : CBitsR R) {g : Geo} {i : Nat} {h : Hs} (x : g.Ok) (hi : i ≤ 100000) : r33 R N [g.v, .int .i64 (.ofNat i)] h = some (.val (.int .i64 (.ofNat (g.nodeAt i))) h) := by
 refine WP.eqn ?_
 have cgh := cg g
 have cbh := cb g
 unfold r33 Geo.v
 unfold Geo.v at cgh cbh
 have H := Sto.enter h
 have h1 := x.1.num
 have h2 := x.1.n2
 repeat' (first | ((refine B_a (cgh _) (fun _ => ?_) (fun _ => ?_)) <;> first | (exfalso; omega) | skip) | (refine A_n (cbh _ x) ?_) | (with_reducible first | refine w_jn ?_ | refine A_l ?_ | refine A_j ?_ | refine G_d ?_ | refine C_3 ?_ | refine A_5 ?_ | refine A_4 ?_ | refine B_k ?_ | refine B_u ?_ | refine A_0 ?_ | refine A_3 ?_ | refine A_e ?_) | ((with_reducible apply B_i) ; rfl) | ((with_reducible refine A_8 H ?_) ; (clear H; intro u H hu)) | ((with_reducible first | refine A_r (fun _ => ?_) (fun _ => ?_) | refine E_8 (fun _ => ?_) (fun _ => ?_)) <;> first | (exfalso; omega) | skip) | ((with_reducible refine A_m ?_ ?_) ; omega) | ((with_reducible refine C_n ?_ ?_ ?_) ; omega; omega) | ((with_reducible apply A_q 0 H) ; rfl; rfl; rfl) | ((with_reducible apply A_f 0 H) ; rfl; rfl; rfl))
 all_goals first
  | exact absurd x ‹_›
  | exact A_u H rfl ⟨by unfold Geo.nodeAt; rw [if_pos (by omega)], rfl⟩
  | exact A_u H rfl ⟨by unfold Geo.nodeAt; rw [if_neg (by omega)], rfl⟩
def CLostR (R : RnK) : Prop := ∀ (g : Geo) (h : Hs), g.Ok → R 61 [g.v] h = some (.val (.tuple #[.int .i64 (.ofNat g.lostAt), .int .i64 (.ofNat g.n)]) h)
theorem b_v {R : RnK} {N : Nat} (cg : CGoodR R) (cn : CNodeR R) {g : Geo} {h : Hs} (x : g.Ok) : r61 R N [g.v] h = some (.val (.tuple #[.int .i64 (.ofNat g.lostAt), .int .i64 (.ofNat g.n)]) h) := by
 refine WP.eqn ?_
 have cgh := cg g
 have cnh := cn g g.n
 unfold r61 Geo.v
 unfold Geo.v at cgh cnh
 have H := Sto.enter h
 have h1 := x.1.num
 have h2 := x.1.n2
 have h3 := x.1.n1
 have e : g.nodeAt g.n + 1 = g.lostAt := by unfold Geo.nodeAt Geo.lostAt; rw [if_pos (by omega)]; omega
 have h4 : g.nodeAt g.n ≤ 10000 := by unfold Geo.lostAt at e; omega
 repeat' (first | ((refine B_a (cgh _) (fun _ => ?_) (fun _ => ?_)) <;> first | (exfalso; omega) | skip) | (refine A_n (cnh _ x (by omega)) ?_) | (with_reducible first | refine w_jn ?_ | refine A_l ?_ | refine A_j ?_ | refine B_k ?_ | refine B_u ?_ | refine A_0 ?_ | refine A_3 ?_ | refine A_e ?_ | refine C_9 ?_) | ((with_reducible refine A_8 H ?_) ; (clear H; intro u H hu)) | ((with_reducible refine A_m ?_ ?_) ; omega) | ((with_reducible apply A_q 0 H) ; rfl; rfl; rfl) | ((with_reducible apply A_f 0 H) ; rfl; rfl; rfl) | ((with_reducible apply H_v 0 H) ; rfl; rfl; (intro _; simp only [HidOk, and_true]; omega)))
 ·rw [e]; exact A_u H rfl ⟨rfl, rfl⟩
 ·exact absurd x ‹_›
def CDataR (R : RnK) : Prop := ∀ (g : Geo) (h : Hs), g.Ok → R 62 [g.v] h = some (.val (.tuple #[.int .i64 (.ofNat g.dataAt), .int .i64 (.ofNat g.dataN)]) h)
theorem d_g {R : RnK} {N : Nat} (cg : CGoodR R) (cl : CLostR R) {g : Geo} {h : Hs} (x : g.Ok) : r62 R N [g.v] h = some (.val (.tuple #[.int .i64 (.ofNat g.dataAt), .int .i64 (.ofNat g.dataN)]) h) := by
 refine WP.eqn ?_
 have cgh := cg g
 have clh := cl g
 unfold r62 Geo.v
 unfold Geo.v at cgh clh
 have H := Sto.enter h
 have h1 := x.1.num
 have h2 := x.1.n2
 have h3 := x.1.b2
 have h4 := x.2
 have e1 : g.lostAt = g.bitsAt + g.bitsN + g.n := rfl
 have e2 : g.lostAt + g.n = g.dataAt := by omega
 have e3 : g.b - 1 - g.lostAt - g.n = g.dataN := by unfold Geo.dataN; omega
 repeat' (first | ((refine B_a (cgh _) (fun _ => ?_) (fun _ => ?_)) <;> first | (exfalso; omega) | skip) | (refine A_n (clh _ x) ?_) | (with_reducible first | refine w_jn ?_ | refine A_l ?_ | refine A_j ?_ | refine B_k ?_ | refine B_u ?_ | refine A_0 ?_ | refine A_3 ?_ | refine A_e ?_) | ((with_reducible apply B_i) ; rfl) | ((with_reducible refine A_8 H ?_) ; (clear H; intro u H hu)) | ((with_reducible refine A_m ?_ ?_) ; omega) | ((with_reducible refine C_n ?_ ?_ ?_) ; omega; omega) | ((with_reducible apply A_q 0 H) ; rfl; rfl; rfl) | ((with_reducible apply A_f 0 H) ; rfl; rfl; rfl))
 ·rw [e2, e3]; exact A_u H rfl ⟨rfl, rfl⟩
 ·exact absurd x ‹_›
def Nd.part7 (d : Nd) (i : Nat) : List Nat := d.head ++ (d.rs.take i).map runW ++ List.replicate (5 - i) 0
theorem W_j {d : Nd} {i : Nat} (h : d.rs.length ≤ 4) (hi : i ≤ d.rs.length) : (d.part7 i).length = 7 := by
 unfold Nd.part7 Nd.head
 simp only [List.length_append, List.length_cons, List.length_nil, List.length_map, List.length_replicate, List.length_take]
 omega
theorem Y_v {d : Nd} {i : Nat} (h : d.rs.length ≤ 4) (hi : i < d.rs.length) : (d.part7 i).set (2 + i) (runW d.rs[i]) = d.part7 (i + 1) := by
 unfold Nd.part7
 have l1 : (d.head ++ (d.rs.take i).map runW).length = 2 + i := by
  unfold Nd.head
  simp only [List.length_append, List.length_cons, List.length_nil, List.length_map, List.length_take]; omega
 rw [List.set_append_right _ _ (by omega), l1, Nat.sub_self, show 5 - i = (5 - (i + 1)) + 1 from by omega, List.replicate_succ, List.set_cons_zero, List.take_add_one, List.getElem?_eq_getElem hi, List.map_append]
 simp only [Option.toList_some, List.map_cons, List.map_nil, List.append_assoc, List.singleton_append]
theorem V_e {d : Nd} : d.part7 d.rs.length = d.body := by
 unfold Nd.part7 Nd.body
 rw [List.take_length]
def CPutNodeR (R : RnK) : Prop := ∀ (d : Nd) (a : Option Addr) (c : Nat) (h : Hs), d.rs.length < 100000 → Rd h (.slice a d.rs.length c) 2 (Rl d.rs) → d.fits → ¬ d.ty = 0 → d.ln ≤ 16777215 → WP (R 34 [d.v a c] h) fun v h' => New h h' (.osl v 50 1 true 8 (Wc (B_x d)))
theorem Q_3 {R : RnK} {N : Nat} (cs : COfR R) {d : Nd} {a : Option Addr} {c : Nat} {h : Hs} (hN : 100 < N) (hl : d.rs.length < 100000) (r : Rd h (.slice a d.rs.length c) 2 (Rl d.rs)) (hx : d.fits) (z : ¬ d.ty = 0) : WP (r34 R N [d.v a c] h) fun v h' => New h h' (.osl v 50 1 true 8 (Wc (B_x d))) := by
 unfold r34 Nd.v
 have H := Sto.enter1 r
 unfold Nd.fits at hx
 rw [if_neg z] at hx
 obtain ⟨x1, x2, x3, x4, x5⟩ := hx
 repeat' (first | (with_reducible first | refine w_jn ?_ | refine A_j ?_ | refine H_z ?_ | refine C_3 ?_ | refine A_4 ?_ | refine A_0 ?_ | refine A_3 ?_ | refine A_e ?_ | refine C_s ?_) | ((with_reducible refine A_8 H ?_) ; (clear H; intro u H hu)) | ((with_reducible apply C_e H) ; rfl; (clear H; intro u H hu; (try dsimp only [List.set_cons_zero, List.set_cons_succ, A_b, List.toList_toArray, splice, ev, rep, List.cons_append, List.nil_append] at H))) | ((with_reducible first | refine A_r (fun _ => ?_) (fun _ => ?_) | refine E_8 (fun _ => ?_) (fun _ => ?_) | refine D_2 (fun _ => ?_) (fun _ => ?_) | refine B_p (fun _ => ?_) (fun _ => ?_)) <;> first | (exfalso; omega) | skip) | ((with_reducible first | refine K_s ?_ ?_ | refine M_d ?_ ?_) ; omega) | ((with_reducible refine O_3 ?_ ?_ ?_) ; omega; omega) | ((with_reducible apply A_q 0 H) ; rfl; rfl; rfl))
 rw [show [Value.int .u64 (.ofNat (d.ty ||| d.ln * 2 ^ 8 % 18446744073709551616)), Value.int .u64 (.ofNat d.sz), Value.int .u64 (.ofNat 0), Value.int .u64 (.ofNat 0), Value.int .u64 (.ofNat 0), Value.int .u64 (.ofNat 0), Value.int .u64 (.ofNat 0)] = Wc (d.part7 0) from rfl] at H
 replace H := H.osl 0 rfl (n := 7) (c := 7) rfl (Nat.le_refl _)
 rw [H_m] at H
 dsimp only [List.set_cons_zero] at H
 obtain ⟨m0, hm0, H0⟩ : ∃ m0, m0 = _ ∧ Sto h [] _ m0 := ⟨_, rfl, H⟩
 refine C_d (Good := fun n (self : L5) => ∀ (i : Nat) (y1 y2 y3 y4 : Value) (u : Hs), i + n = d.rs.length → Sto h [] u (m0.set 0 (.osl (.slice (some ⟨_, 0, none⟩) 7 7) 50 1 true 7 (Wc (d.part7 i)))) → WP (self (.int .i64 (.ofNat i)) y1 y2 y3 y4 u) (fun v h' => New h h' (.osl v 50 1 true 8 (Wc (B_x d))))) (fun n self ih i y1 y2 y3 y4 u hi H1 => ?_) N d.rs.length (by omega) 0 _ _ _ _ _ (by omega) (by rw [hm0]; exact H)
 clear H0 H
 have hm1 := hm0
 rw [hm0] at H1
 have H := H1
 clear H1
 dsimp only [List.set_cons_zero] at H
 repeat' (first | (with_reducible first | refine w_jn ?_ | refine A_l ?_ | refine A_j ?_ | refine A_e ?_ | refine C_s ?_) | ((with_reducible refine A_r (fun _ => ?_) (fun _ => ?_)) <;> first | (exfalso; omega) | skip) | ((with_reducible apply A_q 1 H) ; rfl; rfl; rfl))
 ·have ii : i < d.rs.length := by omega
  refine w_at 2 H rfl (G_i ii) rfl rfl ?_
  have f := E_t (List.all_eq_true.1 x5 _ (List.getElem_mem ii))
  repeat' (first | (with_reducible first | refine w_jn ?_ | refine A_j ?_ | refine C_3 ?_ | refine A_4 ?_ | refine A_e ?_) | ((with_reducible refine A_z H ?_) ; (clear H; intro u H hu)) | ((with_reducible first | refine A_r (fun _ => ?_) (fun _ => ?_) | refine E_8 (fun _ => ?_) (fun _ => ?_)) <;> first | (exfalso; omega) | skip) | ((with_reducible first | refine A_m ?_ ?_ | refine K_s ?_ ?_ | refine M_d ?_ ?_) ; omega) | ((with_reducible refine O_3 ?_ ?_ ?_) ; omega; omega) | ((with_reducible apply A_q 0 H) ; rfl; rfl; rfl) | ((with_reducible apply A_i 0 H) ; rfl; rfl; rfl; omega; rfl; (clear H; intro u H hu; (try dsimp only [List.set_cons_zero, List.set_cons_succ, A_b, List.toList_toArray, splice, ev, rep, List.cons_append, List.nil_append] at H))))
  refine D_0 1 H rfl (by rw [D_3, W_j x4 (by omega)]; omega) rfl fun u1 H1 hu1 => ?_
  rw [H_o] at H1
  clear H; have H := H1.tail; clear H1
  dsimp only [List.set_cons_zero, List.set_cons_succ] at H
  repeat' (first | ((with_reducible refine A_m ?_ ?_) ; omega))
  refine ih (n - 1) (by omega) (i + 1) _ _ _ _ _ (by omega) ?_
  rw [hm1, ← Y_v x4 ii]
  exact H
 ·have ie : i = d.rs.length := by omega
  subst ie
  rw [V_e] at H
  have rd := H.rdO 0 rfl
  rw [← B_n] at rd
  refine A_n (cs d.body _ _ (F_x x1 x3 x5) (by rw [H_b x4]; omega) rd) ?_
  repeat' (first | ((with_reducible apply C_e H) ; rfl; (clear H; intro u H hu; (try dsimp only [List.set_cons_zero, List.set_cons_succ, A_b, List.toList_toArray, splice, ev, rep, List.cons_append, List.nil_append] at H))))
  refine D_u 1 0 H rfl rfl rfl rfl (by omega) (by omega) fun v' u' H' hn => ?_
  have e3 : B_x d = d.body ++ [D_k d.body] := if_neg z
  rw [e3]
  rw [show Wc d.body ++ [Value.int .u64 (.ofNat (D_k d.body))] = Wc (d.body ++ [D_k d.body]) from by unfold Wc; rw [List.map_append]; rfl] at H'
  exact F_c 1 H' rfl fun v' h' n => n
theorem a_e {w k : Nat} (hw : w < 18446744073709551616) (hk : k < 64) : w ||| (1 * 2 ^ k % 18446744073709551616) = I_c w k true := by
 have h1 : 2 ^ k < 2 ^ 64 := Nat.pow_lt_pow_right (by omega) hk
 have e64 : (18446744073709551616 : Nat) = 2 ^ 64 := by decide
 have h0 : 1 * 2 ^ k % 18446744073709551616 = 2 ^ k := by rw [Nat.one_mul, e64]; exact Nat.mod_eq_of_lt h1
 unfold I_c O_s
 rw [if_pos rfl, h0]
 refine Nat.eq_of_testBit_eq fun j => ?_
 have h2 : (18446744073709551615 - 2 ^ k).testBit j = (decide (j < 64) && !(2 ^ k).testBit j) := by
  have := Nat.testBit_two_pow_sub_succ h1 j
  rw [← this]; congr 1; omega
 rw [Nat.testBit_or, Nat.testBit_or, Nat.testBit_and, h2]
 by_cases hj : j < 64
 ·simp only [hj, decide_true, Bool.true_and]
  cases w.testBit j <;> cases (2 ^ k).testBit j <;> rfl
 ·have : w.testBit j = false := Nat.testBit_lt_two_pow (Nat.lt_of_lt_of_le (by rw [← e64]; exact hw) (Nat.pow_le_pow_right (by omega) (by omega)))
  simp [this, hj]
def CSetR (R : RnK) : Prop := ∀ (l : List Nat) (is : List Int) (v w : Value) (h : Hs), Small l → l.length < 100000 → is.length < 100000 → (∀ i ∈ is, i ≤ 9223372036854775807) → Rd h v 1 (Wl l) → Rd h w 1 (Il is) → WP (R 63 [v, .bool true, w] h) fun v h' => New h h' (OW v (setBits l true is))
theorem g_d {R : RnK} {N : Nat} {l : List Nat} {is : List Int} {v w : Value} {h : Hs} (hN : 100000 < N) (hl : Small l) (hb : l.length < 100000) (hi : is.length < 100000) (hm : ∀ i ∈ is, i ≤ 9223372036854775807) (r1 : Rd h v 1 (Wl l)) (r2 : Rd h w 1 (Il is)) :
 WP (r63 R N [v, .bool true, w] h) fun v h' => New h h' (OW v (setBits l true is)) := by
 unfold r63
 have H := Sto.enter2 r1 r2
 have e1 := C_w l
 have e2 : (Il is).length = is.length := List.length_map _
 repeat' (first | (with_reducible first | refine A_0 ?_ | refine A_3 ?_) | ((with_reducible apply C_e H) ; rfl; (clear H; intro u H hu; (try dsimp only [List.set_cons_zero, List.set_cons_succ, A_b, List.toList_toArray, splice, ev, rep, List.cons_append, List.nil_append] at H))))
 replace H := H.osl 0 rfl (n := 0) (c := 0) rfl (Nat.le_refl _)
 dsimp only [List.set_cons_zero] at H
 refine M_v 0 1 H rfl rfl (by omega) (by rw [F_w]; exact R_f l) (by omega) fun v' u2 H2 hn => ?_
 clear H
 rw [F_w, e1, H_m, Nat.zero_add] at H2
 have H := H2
 clear H2
 dsimp only [List.set_cons_zero, List.nil_append] at H
 obtain ⟨a1, c1, rfl⟩ := (show OwnSl u2 v' 50 1 _ l.length (Wc l) from H.ok _ (List.mem_of_getElem? (i := 0) rfl)).form
 obtain ⟨m0, hm0, H0⟩ : ∃ m0, m0 = _ ∧ Sto h [] _ m0 := ⟨_, rfl, H⟩
 refine C_d (Good := fun n (self : L5) => ∀ (i : Nat) (y1 y2 y3 y4 : Value) (u : Hs), i + n = is.length → Sto h [] u (m0.set 0 (.osl (.slice a1 l.length c1) 50 1 true l.length (Wc (setBits l true (is.take i))))) → WP (self (.int .i64 (.ofNat i)) y1 y2 y3 y4 u) (fun v h' => New h h' (OW v (setBits l true is)))) (fun n self ih i y1 y2 y3 y4 u hi H1 => ?_) N is.length (by omega) 0 _ _ _ _ _ (by omega) (by rw [hm0]; exact H)
 clear H0 H
 have hm1 := hm0
 rw [hm0] at H1
 have H := H1
 clear H1
 dsimp only [List.set_cons_zero, List.set_cons_succ] at H
 have sl := D_m true (is.take i) l
 have ss : Small (setBits l true (is.take i)) := H_j hl
 repeat' (first | (with_reducible first | refine w_jn ?_ | refine A_l ?_ | refine A_j ?_) | ((with_reducible refine A_r (fun _ => ?_) (fun _ => ?_)) <;> first | (exfalso; omega) | skip) | ((with_reducible apply D_l 2 H) ; rfl))
 ·have ii : i < is.length := by omega
  refine H_h 2 H rfl (f_0 ii) rfl rfl ?_
  have hx := hm is[i] (List.getElem_mem ii)
  have tk : is.take (i + 1) = is.take i ++ [is[i]] := by rw [List.take_add_one, List.getElem?_eq_getElem ii]; rfl
  have sn : setBits l true (is.take (i + 1)) = C_t (setBits l true (is.take i)) true is[i] := by rw [tk, I_j]
  by_cases q : 0 ≤ is[i] ∧ is[i] < 64 * l.length
  ·obtain ⟨k, hk⟩ := Int.eq_ofNat_of_zero_le q.1
   rw [hk, show (Value.int .i64 (k : Int)) = .int .i64 (.ofNat k) from rfl]
   have q2 : k / 64 < l.length := by have := q.2; omega
   have lo : k / 64 < (setBits l true (is.take i)).length := by rw [sl]; exact q2
   have sb : C_t (setBits l true (is.take i)) true is[i] = (setBits l true (is.take i)).set (k / 64) (I_c ((setBits l true (is.take i))[k / 64]) (k % 64) true) := by
    unfold C_t
    rw [hk, if_pos ⟨by omega, lo⟩, List.getD_eq_getElem?_getD]
    show List.set _ (k / 64) (I_c (((setBits l true (is.take i))[k / 64]?).getD 0) (k % 64) true) = _
    rw [List.getElem?_eq_getElem lo]; rfl
   have wlt := ss _ (List.getElem_mem lo)
   have pb := a_e (k := k % 64) wlt (Nat.mod_lt _ (by omega))
   repeat' (first | (with_reducible first | refine w_jn ?_ | refine A_l ?_ | refine A_j ?_ | refine C_3 ?_ | refine A_4 ?_) | ((with_reducible first | refine A_r (fun _ => ?_) (fun _ => ?_) | refine D_2 (fun _ => ?_) (fun _ => ?_)) <;> first | (exfalso; omega) | skip) | ((with_reducible refine C_h ?_ ?_) ; omega) | ((with_reducible refine D_s ?_ ?_ ?_) ; omega; omega) | ((with_reducible apply D_l 1 H) ; rfl))
   refine j_k 0 H rfl (W_3 lo) rfl ?_
   repeat' (first | ((with_reducible first | refine F_8 ?_ ?_ | refine K_s ?_ ?_ | refine M_d ?_ ?_) ; omega) | ((with_reducible refine O_3 ?_ ?_ ?_) ; omega; omega))
   rw [pb]
   refine D_0 0 H rfl (by rw [D_3]; exact lo) rfl fun u5 H2 _ => ?_
   rw [H_o, ← sb, ← sn] at H2
   dsimp only [List.set_cons_zero] at H2
   repeat' (first | ((with_reducible refine A_m ?_ ?_) ; omega))
   refine ih (n - 1) (by omega) (i + 1) _ _ _ _ _ (by omega) ?_
   rw [hm1]
   exact H2
  ·have sn2 : setBits l true (is.take (i + 1)) = setBits l true (is.take i) := by
    rw [sn]
    unfold C_t
    rw [if_neg (by rw [sl]; omega)]
   repeat' (first | (with_reducible first | refine w_jn ?_ | refine A_l ?_ | refine G_d ?_ | refine C_3 ?_ | refine A_5 ?_ | refine A_4 ?_) | ((with_reducible first | refine c_o (fun _ => ?_) (fun _ => ?_) | refine I_z (fun _ => ?_) (fun _ => ?_)) <;> first | (exfalso; omega) | skip) | ((with_reducible first | refine A_m ?_ ?_ | refine C_h ?_ ?_) ; omega) | ((with_reducible apply D_l 1 H) ; rfl))
   all_goals
    refine ih (n - 1) (by omega) (i + 1) _ _ _ _ _ (by omega) ?_
    rw [hm1, sn2]
    exact H
 ·rw [List.take_of_length_le (show is.length ≤ i by omega)] at H
  have sl2 := D_m true is l
  exact F_c 0 H rfl fun v' h' nn => by unfold OW; rw [sl2]; exact nn
def B_7 (g : Geo) (i : Nat) : List Int := ((List.range i).filter fun j => decide (j < g.dataAt ∨ g.dataAt + g.dataN ≤ j)).map fun j : Nat => Int.ofNat j
theorem J_i (g : Geo) (i : Nat) : B_7 g (i + 1) = B_7 g i ++ if i < g.dataAt ∨ g.dataAt + g.dataN ≤ i then [Int.ofNat i] else [] := by
 unfold B_7
 rw [List.range_succ, List.filter_append, List.map_append]
 congr 1
 by_cases q : i < g.dataAt ∨ g.dataAt + g.dataN ≤ i
 ·rw [if_pos q, List.filter_cons_of_pos (by simpa using q)]; rfl
 ·rw [if_neg q, List.filter_cons_of_neg (by simpa using q)]; rfl
def Ic (l : List Int) : List Value := l.map fun i => Value.int .i64 i
theorem j_j (l : List Int) : Il l = ones (Ic l) := by unfold Il ones Ic; rw [List.map_map]; rfl
theorem K_4 (g : Geo) (i : Nat) : (B_7 g i).length ≤ i := by
 unfold B_7
 rw [List.length_map]
 have := List.length_filter_le (fun j => decide (j < g.dataAt ∨ g.dataAt + g.dataN ≤ j)) (List.range i)
 rw [List.length_range] at this; exact this
theorem X_0 {g : Geo} {i : Nat} (hi : i ≤ 100000) : ∀ j ∈ B_7 g i, j ≤ 9223372036854775807 := by
 intro j hj
 unfold B_7 at hj
 rw [List.mem_map] at hj
 obtain ⟨k, hk, rfl⟩ := hj
 have := List.mem_range.1 (List.mem_filter.1 hk).1
 show (k : Int) ≤ _
 omega
theorem W_s {R : RnK} {N : Nat} (cb : CBitsR R) (cd : CDataR R) (cs : CSetR R) {g : Geo} {h : Hs} (hN : 100000 < N) (x : g.Ok) :
 WP (r37 R N [g.v, .slice none 0 0] h) fun v h' => New h h' (OW v (setBits (List.replicate (8 * g.bitsN) 0) true (B_7 g g.b))) := by
 have cbh := cb g
 have cdh := cd g
 unfold r37 Geo.v
 unfold Geo.v at cbh cdh
 have H := Sto.enter h
 have h1 := x.1.num
 have h2 := x.1.b2
 have h3 := x.2
 have h4 : g.dataN = g.b - 1 - g.dataAt := rfl
 repeat' (first | (refine A_n (cbh _ x) ?_) | (refine A_n (cdh _ x) ?_) | (with_reducible first | refine w_jn ?_ | refine A_0 ?_ | refine A_3 ?_) | ((with_reducible apply B_i) ; rfl) | ((with_reducible refine A_8 H ?_) ; (clear H; intro u H hu)) | ((with_reducible refine F_p H ?_ ?_ ?_) ; omega; rfl; (clear H; intro u H hu)) | ((with_reducible refine C_h ?_ ?_) ; omega) | ((with_reducible apply A_f 0 H) ; rfl; rfl; rfl) | ((with_reducible apply A_f 1 H) ; rfl; rfl; rfl))
 rw [d_m] at H
 replace H := H.osl 0 rfl (n := 8 * g.bitsN) (c := 8 * g.bitsN) (by rw [D_3, List.length_replicate]; omega) (Nat.le_refl _)
 dsimp only [List.set_cons_zero] at H
 replace H := H.nilS 3 1
 obtain ⟨m0, hm0, H0⟩ : ∃ m0, m0 = _ ∧ Sto h [] _ m0 := ⟨_, rfl, H⟩
 clear H
 refine C_d (Good := fun n (self : L4) => ∀ (i : Nat) (y1 y2 t : Value) (u : Hs), i + n = g.b → Sto h [] u (m0.set 0 (.osl t 3 1 true (B_7 g i).length (Ic (B_7 g i)))) → WP (self (.int .i64 (.ofNat i)) y1 y2 t u) (fun v h' => New h h' (OW v (setBits (List.replicate (8 * g.bitsN) 0) true (B_7 g g.b))))) (fun n self ih i y1 y2 t u hi H1 => ?_) N g.b (by omega) 0 _ _ _ _ (by omega) (by rw [hm0]; rw [hm0] at H0; exact H0)
 have hm1 := hm0
 rw [hm0] at H1
 have H := H1
 clear H1
 dsimp only [List.set_cons_zero, List.set_cons_succ] at H
 obtain ⟨ac, cc, rfl⟩ := (show OwnSl u t 3 1 _ _ _ from H.ok _ (List.mem_of_getElem? (i := 0) rfl)).form
 have tl := K_4 g i
 have ts := J_i g i
 have tw : (i < g.dataAt ∨ g.dataAt + g.dataN ≤ i) → (B_7 g (i + 1)).length = (B_7 g i).length + 1 ∧ Ic (B_7 g (i + 1)) = Ic (B_7 g i) ++ [Value.int .i64 (.ofNat i)] := fun q => by
  rw [ts, if_pos q]
  exact ⟨by rw [List.length_append]; rfl, by unfold Ic; rw [List.map_append]; rfl⟩
 have tn : ¬ (i < g.dataAt ∨ g.dataAt + g.dataN ≤ i) → B_7 g (i + 1) = B_7 g i := fun q => by rw [ts, if_neg q, List.append_nil]
 repeat' (first | (with_reducible first | refine w_jn ?_ | refine A_l ?_ | refine A_j ?_ | refine G_d ?_ | refine C_3 ?_ | refine A_5 ?_ | refine A_4 ?_ | refine A_e ?_) | ((with_reducible apply C_e H) ; rfl; (clear H; intro u H hu; (try dsimp only [List.set_cons_zero, List.set_cons_succ, A_b, List.toList_toArray, splice, ev, rep, List.cons_append, List.nil_append] at H))) | ((with_reducible first | refine A_r (fun _ => ?_) (fun _ => ?_) | refine D_2 (fun _ => ?_) (fun _ => ?_)) <;> first | (exfalso; omega) | skip) | ((with_reducible refine A_m ?_ ?_) ; omega) | ((with_reducible apply A_q 2 H) ; rfl; rfl; rfl))
 all_goals first
  | (refine D_u 1 0 H rfl rfl rfl rfl (by omega) (by omega) fun v' u' H' hn => ?_
     obtain ⟨e1, e2⟩ := tw (by omega)
     clear H
     replace H' := H'.tail
     repeat' (first | ((with_reducible refine A_m ?_ ?_) ; omega))
     refine ih (n - 1) (by omega) (i + 1) _ _ _ _ (by omega) ?_
     rw [hm1, e1, e2]
     exact H')
  | (refine ih (n - 1) (by omega) (i + 1) _ _ _ _ (by omega) ?_
     rw [hm1, tn (by omega)]
     exact H)
  | skip
 have ei : i = g.b := by omega
 subst ei
 clear ih
 obtain ⟨m2, hm2, H2⟩ : ∃ m2, m2 = _ ∧ Sto h [] u m2 := ⟨_, rfl, H⟩
 clear H
 refine C_d (Good := fun n (self : L5) => ∀ (y1 y2 y3 : Value), WP (self (.slice ac (B_7 g g.b).length cc) (.int .i64 (.ofNat 0)) y1 y2 y3 u) (fun v h' => New h h' (OW v (setBits (List.replicate (8 * g.bitsN) 0) true (B_7 g g.b))))) (fun n self ih y1 y2 y3 => ?_) N 0 (by omega) _ _ _
 rw [hm2] at H2
 have H := H2
 clear H2
 repeat' (first | (with_reducible first | refine w_jn ?_ | refine A_j ?_ | refine C_s ?_) | ((with_reducible refine A_r (fun _ => ?_) (fun _ => ?_)) <;> first | (exfalso; omega) | skip))
 have rt := H.rdO 0 rfl
 rw [← j_j] at rt
 have rw1 := H.rdO 1 rfl
 rw [← B_n] at rw1
 have tl2 := K_4 g g.b
 refine A_1 (cs _ _ _ _ _ (fun n hn => by rw [List.mem_replicate] at hn; omega) (by rw [List.length_replicate]; omega) (by omega) (X_0 (by omega)) rw1 rt) fun v u5 n5 => ?_
 have H5 := H.call n5
 exact F_c 0 H5 rfl fun v' h' nn => nn
theorem P_d {R : RnK} {N : Nat} (cl : CLostR R) {g : Geo} {h : Hs} (x : g.Ok) :
 WP (r35 R N [g.v] h) fun v h' => ∃ a c, v = (C_x g).v a c ∧ New h h' (.osl (.slice a 1 c) 130 2 true 1 [.int .i64 (.ofNat g.lostAt), .int .i64 (.ofNat g.n)]) := by
 have clh := cl g
 unfold r35 Geo.v
 unfold Geo.v at clh
 have H := Sto.enter h
 repeat' (first | (refine A_n (clh _ x) ?_) | (with_reducible first | refine A_0 ?_ | refine A_3 ?_) | ((with_reducible apply B_i) ; rfl) | ((with_reducible apply A_9) ; rfl; (try dsimp only [splice, ev, A_b, rep, List.cons_append, List.nil_append])) | ((with_reducible refine A_8 H ?_) ; (clear H; intro u H hu)) | ((with_reducible refine A_z H ?_) ; (clear H; intro u H hu)) | ((with_reducible apply C_e H) ; rfl; (clear H; intro u H hu; (try dsimp only [List.set_cons_zero, List.set_cons_succ, A_b, List.toList_toArray, splice, ev, rep, List.cons_append, List.nil_append] at H))) | ((with_reducible apply A_i 1 H) ; rfl; rfl; rfl; omega; rfl; (clear H; intro u H hu; (try dsimp only [List.set_cons_zero, List.set_cons_succ, A_b, List.toList_toArray, splice, ev, rep, List.cons_append, List.nil_append] at H))) | ((with_reducible apply B_9 1 H) ; rfl; rfl; rfl) | ((with_reducible apply A_f 1 H) ; rfl; rfl; rfl))
 replace H := H.osl 0 rfl (n := 1) (c := 1) rfl (Nat.le_refl _)
 exact I_b (fun v => .agg #[.int .i64 (.ofNat 2), .int .i64 (.ofNat 1), .int .i64 (.ofNat g.n), v]) 0 H rfl (fun _ _ _ => by simp [blkV, blkP, blkC]) (fun _ _ _ _ => rfl) fun v' h' nn => by
  obtain ⟨a, c, rfl⟩ := nn.2.1.form
  exact ⟨a, c, rfl, nn⟩
def CPutI (R : RnK) : Prop := ∀ (h : Hs) (t : Nat) (fl : Bool) (g : Geo) (s v : Value) (W ws : List Nat) (p at_ : Nat), W.length ≤ 10000 → 8 * at_ + 8 ≤ W.length → ws.length = 8 → Rd h s 1 (Wl W) → Rd h v 1 (Wl ws) → Th.id (.rsl s 1 (Wl W)) ≠ some p → Th.id (.rsl v 1 (Wl ws)) ≠ some p → p < h.nx →
 Holds (h.hp.get p) (.row t 0 true fl [.int .i64 (.ofNat g.b), .int .i64 (.ofNat g.n), .int .i64 (.ofNat g.c), .int .i64 (.ofNat g.k), s]) →
 WP (R 31 [.pointer (some ⟨p, 0, none⟩), .int .i64 (.ofNat at_), v] h) fun r h' => r = .tuple #[] ∧ Mut h h' p ∧ ∃ s' fl', Holds (h'.hp.get p) (.row t 0 true fl' [.int .i64 (.ofNat g.b), .int .i64 (.ofNat g.n), .int .i64 (.ofNat g.c), .int .i64 (.ofNat g.k), s']) ∧ (Th.osl s' 50 1 true W.length (Wc (putW W (8 * at_) ws))).body h' ∧ ∀ b', (Th.osl s' 50 1 true W.length (Wc (putW W (8 * at_) ws))).id = some b' → h.nx ≤ b' ∧ b' < h'.nx
def putP (W ws : List Nat) (o i : Nat) : List Nat := putW W o (ws.take i)
theorem c_a {W ws : List Nat} {o i : Nat} (hi : i < ws.length) (ho : o + ws.length ≤ W.length) : (putP W ws o i).set (o + i) ws[i] = putP W ws o (i + 1) := by
 unfold putP putW
 have l0 : (W.take o).length = o := by rw [List.length_take]; omega
 have l1 : (ws.take i).length = i := by rw [List.length_take]; omega
 have l2 : (W.take o ++ ws.take i).length = o + i := by rw [List.length_append, l0, l1]
 have l3 : (ws.take (i + 1)).length = i + 1 := by rw [List.length_take]; omega
 rw [l1, l3, List.set_append_right _ _ (by omega), l2, Nat.sub_self, List.drop_eq_getElem_cons (show o + i < W.length by omega), List.set_cons_zero, List.take_add_one, List.getElem?_eq_getElem hi]
 simp only [Option.toList_some, List.append_assoc, List.singleton_append, Nat.add_assoc]
theorem d_u {W ws : List Nat} {o i : Nat} (ho : o + ws.length ≤ W.length) : (putP W ws o i).length = W.length := B_b (by rw [List.length_take]; omega)
theorem N_y {W ws : List Nat} {o : Nat} : putP W ws o 0 = W := by
 unfold putP putW
 rw [List.take_zero, List.append_nil, List.length_nil, Nat.add_zero, List.take_append_drop]
theorem g_9 {R : RnK} {N : Nat} (hN : 100 < N) {h : Hs} {t : Nat} {fl : Bool} {g : Geo} {s v : Value} {W ws : List Nat} {p at_ : Nat} (hW : W.length ≤ 10000) (ha : 8 * at_ + 8 ≤ W.length) (hw : ws.length = 8) (r1 : Rd h s 1 (Wl W)) (r2 : Rd h v 1 (Wl ws)) (n1 : Th.id (.rsl s 1 (Wl W)) ≠ some p) (n2 : Th.id (.rsl v 1 (Wl ws)) ≠ some p) (hp : p < h.nx)
 (ho : Holds (h.hp.get p) (.row t 0 true fl [.int .i64 (.ofNat g.b), .int .i64 (.ofNat g.n), .int .i64 (.ofNat g.c), .int .i64 (.ofNat g.k), s])) :
 WP (r31 R N [.pointer (some ⟨p, 0, none⟩), .int .i64 (.ofNat at_), v] h) fun r h' => r = .tuple #[] ∧ Mut h h' p ∧ ∃ s' fl', Holds (h'.hp.get p) (.row t 0 true fl' [.int .i64 (.ofNat g.b), .int .i64 (.ofNat g.n), .int .i64 (.ofNat g.c), .int .i64 (.ofNat g.k), s']) ∧ (Th.osl s' 50 1 true W.length (Wc (putW W (8 * at_) ws))).body h' ∧ ∀ b', (Th.osl s' 50 1 true W.length (Wc (putW W (8 * at_) ws))).id = some b' → h.nx ≤ b' ∧ b' < h'.nx := by
 unfold r31
 obtain ⟨a, c, rfl⟩ := r1.1.form
 have H := Sto.enterM (h := h) [.rsl (.slice a (Wl W).length c) 1 (Wl W), .rsl v 1 (Wl ws)] ho hp (fun q hq => by
  rcases List.mem_cons.1 hq with rfl | hq
  ·exact ⟨rfl, r1.1, fun b' hb' => ⟨r1.2 b' hb', fun e => n1 (by rw [← e]; exact hb')⟩⟩
  ·have : q = .rsl v 1 (Wl ws) := by simpa using hq
   subst this
   exact ⟨rfl, r2.1, fun b' hb' => ⟨r2.2 b' hb', fun e => n2 (by rw [← e]; exact hb')⟩⟩)
 have e := C_w W
 have e2 := C_w ws
 repeat' (first | (with_reducible first | refine A_0 ?_ | refine A_3 ?_ | refine A_e ?_ | refine d_z ?_) | ((with_reducible apply C_e H) ; rfl; (clear H; intro u H hu; (try dsimp only [List.set_cons_zero, List.set_cons_succ, A_b, List.toList_toArray, splice, ev, rep, List.cons_append, List.nil_append] at H))) | ((with_reducible apply A_q 1 H) ; rfl; rfl; rfl))
 replace H := H.osl 0 rfl (n := 0) (c := 0) rfl (Nat.le_refl _)
 dsimp only [List.set_cons_zero] at H
 refine M_v 0 2 H rfl rfl (by omega) (by rw [F_w]; exact R_f W) (by omega) fun v' u2 H2 hn => ?_
 clear H
 rw [F_w, e, H_m, Nat.zero_add] at H2
 have H := H2
 clear H2
 dsimp only [List.set_cons_zero, List.nil_append] at H
 obtain ⟨a1, c1, rfl⟩ := (show OwnSl u2 v' 50 1 _ W.length (Wc W) from H.ok _ (List.mem_of_getElem? (i := 0) rfl)).form
 obtain ⟨m0, hm0, H0⟩ : ∃ m0, m0 = _ ∧ Sto h [p] u2 m0 := ⟨_, rfl, H⟩
 clear H
 refine C_d (Good := fun n (self : L2) => ∀ (i : Nat) (y : Value) (u : Hs), i + n = 8 → Sto h [p] u (m0.set 0 (.osl (.slice a1 W.length c1) 50 1 true W.length (Wc (putP W ws (8 * at_) i)))) → WP (self (.int .i64 (.ofNat i)) y u) _) (fun n self ih i y u hi H1 => ?_) N 8 (by omega) 0 _ _ (by omega) (by rw [hm0, N_y]; rw [hm0] at H0; exact H0)
 have hm1 := hm0
 rw [hm0] at H1
 have H := H1
 clear H1
 dsimp only [List.set_cons_zero, List.set_cons_succ] at H
 repeat' (first | (with_reducible first | refine w_jn ?_ | refine A_l ?_ | refine A_j ?_ | refine A_e ?_ | refine d_z ?_) | ((with_reducible refine A_r (fun _ => ?_) (fun _ => ?_)) <;> first | (exfalso; omega) | skip) | ((with_reducible first | refine A_m ?_ ?_ | refine C_h ?_ ?_) ; omega) | ((with_reducible apply M_k 1 H) ; rfl; (simp only [List.length_cons, List.length_nil]; omega); rfl; (clear H; intro u H hu; (try dsimp only [List.set_cons_zero, List.set_cons_succ, A_b, List.toList_toArray, splice, ev, rep, List.cons_append, List.nil_append] at H))))
 ·have ii : i < ws.length := by omega
  refine H_h 3 H rfl (I_f ii) rfl rfl ?_
  refine D_0 0 H rfl (by rw [D_3, d_u (by omega)]; omega) rfl fun u5 H2 _ => ?_
  rw [H_o, c_a ii (by omega)] at H2
  dsimp only [List.set_cons_zero] at H2
  repeat' (first | ((with_reducible refine A_m ?_ ?_) ; omega))
  refine ih (n - 1) (by omega) (i + 1) _ _ (by omega) ?_
  rw [hm1]
  exact H2
 ·have ei : putP W ws (8 * at_) i = putW W (8 * at_) ws := by
   unfold putP
   rw [List.take_of_length_le (by omega)]
  rw [ei] at H
  refine a_q 1 0 H rfl rfl rfl (by decide) hp (fun q => ?_) fun h'' mu hh tb ti => ⟨rfl, mu, _, _, hh, tb, ti⟩
  obtain ⟨cs1, f1, hb1, _, hc1⟩ := ho
  obtain ⟨cs2, f2, hb2, _, hc2⟩ := (show Holds (u.hp.get p) (.row t 0 true _ [.int .i64 (.ofNat g.b), .int .i64 (.ofNat g.n), .int .i64 (.ofNat g.c), .int .i64 (.ofNat g.k), .slice a1 W.length c1]) from H.ok _ (List.mem_of_getElem? (i := 1) rfl))
  rw [q, hb1] at hb2
  injection hb2 with hb2
  injection hb2 with g1 g2 g3 g4 g5 g6
  subst g1
  have g7 := (hc1 4).symm.trans (hc2 4)
  injection g7 with g7
  injection g7 with g7 _ _
  subst g7
  have o := H.ok _ (List.mem_of_getElem? (i := 0) rfl)
  have o : OwnSl u (.slice a W.length c1) 50 1 true W.length (Wc (putW W (8 * at_) ws)) := o
  rcases o.2 with ⟨_, z⟩ | ⟨id, _, _, _, _, e9, _⟩
  ·omega
  ·injection e9 with e9 _ _
   subst e9
   have i1 := H.ids _ (List.mem_of_getElem? (i := 0) rfl) id rfl
   have i2 : Th.id (.rsl (.slice (some ⟨id, 0, none⟩) (Wl W).length c) 1 (Wl W)) = some id := by
    cases W with
    | nil => exact absurd ha (by simp)
    | cons x W => rfl
   rcases i1.2 rfl with k1 | k1
   ·have := r1.2 id i2
    omega
   ·have : id = p := by simpa using k1
    exact n1 (by rw [i2, this])
def imgC (g : Geo) (s : Value) : List Value := [.int .i64 (.ofNat g.b), .int .i64 (.ofNat g.n), .int .i64 (.ofNat g.c), .int .i64 (.ofNat g.k), s]
theorem l_f {h u : Hs} {p t n n' c c' id : Nat} {fl fl' : Bool} {g : Geo} {a : Option Addr} {W : List Nat} (ho : Holds (h.hp.get p) (.row t 0 true fl (imgC g (.slice a n c)))) (r1 : Rd h (.slice a n c) 1 (Wl W)) (hW : W ≠ []) (hu : Holds (u.hp.get p) (.row t 0 true fl' (imgC g (.slice (some ⟨id, 0, none⟩) n' c')))) (hid : h.nx ≤ id) : u.hp.get p ≠ h.hp.get p := fun q => by
 obtain ⟨cs1, f1, hb1, _, hc1⟩ := ho
 obtain ⟨cs2, f2, hb2, _, hc2⟩ := hu
 rw [q, hb1] at hb2
 injection hb2 with hb2
 injection hb2 with g1 g2 g3 g4 g5 g6
 subst g1
 have g7 := (hc1 4).symm.trans (hc2 4)
 injection g7 with g7
 injection g7 with g7 _ _
 subst g7
 have i2 : Th.id (.rsl (.slice (some ⟨id, 0, none⟩) n c) 1 (Wl W)) = some id := by
  cases W with
  | nil => exact absurd rfl hW
  | cons x W => rfl
 have := r1.2 id i2
 omega
theorem W_u {W ws : List Nat} {o k : Nat} (hk : k + 8 ≤ ws.length) (ho : o + ws.length ≤ W.length) : putW (putW W o (ws.take k)) (o + k) ((ws.drop k).take 8) = putW W o (ws.take (k + 8)) := by
 have l0 : (W.take o).length = o := by rw [List.length_take]; omega
 have l1 : (ws.take k).length = k := by rw [List.length_take]; omega
 have l2 : (W.take o ++ ws.take k).length = o + k := by rw [List.length_append, l0, l1]
 have l3 : ((ws.drop k).take 8).length = 8 := by rw [List.length_take, List.length_drop]; omega
 have l4 : (ws.take (k + 8)).length = k + 8 := by rw [List.length_take]; omega
 unfold putW
 rw [l1, l3, l4]
 have f1 : (W.take o ++ ws.take k ++ W.drop (o + k)).take (o + k) = W.take o ++ ws.take k := by rw [← l2]; exact List.take_left
 have f2 : (W.take o ++ ws.take k ++ W.drop (o + k)).drop (o + k + 8) = W.drop (o + (k + 8)) := by
  rw [← List.drop_drop, show (W.take o ++ ws.take k ++ W.drop (o + k)).drop (o + k) = W.drop (o + k) from by rw [← l2]; exact List.drop_left, List.drop_drop, Nat.add_assoc]
 rw [f1, f2, List.take_add]
 simp only [List.append_assoc]
theorem Q_a {R : RnK} {N : Nat} (hN : 100 < N) (cb : CBitsR R) (cp : CPutI R) {h : Hs} {t : Nat} {fl : Bool} {g : Geo} {s v : Value} {W ws : List Nat} {p : Nat} (x : g.Ok) (hW : W.length = 8 * g.b) (hw : ws.length = 8 * g.bitsN) (r1 : Rd h s 1 (Wl W)) (r2 : Rd h v 1 (Wl ws)) (n1 : Th.id (.rsl s 1 (Wl W)) ≠ some p) (n2 : Th.id (.rsl v 1 (Wl ws)) ≠ some p) (hp : p < h.nx)
 (ho : Holds (h.hp.get p) (.row t 0 true fl (imgC g s))) :
 WP (r36 R N [.pointer (some ⟨p, 0, none⟩), v] h) fun r h' => r = .tuple #[] ∧ Mut h h' p ∧ ∃ s' fl', Holds (h'.hp.get p) (.row t 0 true fl' (imgC g s')) ∧ (Th.osl s' 50 1 true W.length (Wc (putW W (8 * g.bitsAt) ws))).body h' ∧ ∀ b', (Th.osl s' 50 1 true W.length (Wc (putW W (8 * g.bitsAt) ws))).id = some b' → h.nx ≤ b' ∧ b' < h'.nx := by
 have cbh := cb g
 unfold r36
 unfold Geo.v at cbh
 obtain ⟨a, c, rfl⟩ := r1.1.form
 have H := Sto.enterM (h := h) [.rsl (.slice a (Wl W).length c) 1 (Wl W), .rsl v 1 (Wl ws)] ho hp (fun q hq => by
  rcases List.mem_cons.1 hq with rfl | hq
  ·exact ⟨rfl, r1.1, fun b' hb' => ⟨r1.2 b' hb', fun e => n1 (by rw [← e]; exact hb')⟩⟩
  ·have : q = .rsl v 1 (Wl ws) := by simpa using hq
   subst this
   exact ⟨rfl, r2.1, fun b' hb' => ⟨r2.2 b' hb', fun e => n2 (by rw [← e]; exact hb')⟩⟩)
 have e := C_w W
 have e2 := C_w ws
 have h1 := x.1.num
 have h2 := x.1.b2
 have h3 := x.2
 unfold imgC at H
 repeat' (first | (refine A_n (cbh _ x) ?_) | (with_reducible first | refine w_jn ?_ | refine A_0 ?_ | refine A_3 ?_ | refine A_e ?_ | refine d_z ?_) | ((with_reducible apply B_i) ; rfl) | ((with_reducible apply E_i 0 H) ; rfl; rfl; rfl; rfl; (try dsimp only [List.drop_zero, List.drop_succ_cons, List.take_succ_cons, List.take_zero])))
 have wz : W ≠ [] := fun q => by rw [q] at hW; simp at hW; have := x.1.b1; omega
 have st : ∀ (i : Nat) (Wi : List Nat), Wi = putW W (8 * g.bitsAt) (ws.take (8 * i)) → i < g.bitsN → Wi.length = W.length ∧ putW Wi (8 * (g.bitsAt + i)) ((ws.drop (8 * i)).take 8) = putW W (8 * g.bitsAt) (ws.take (8 * (i + 1))) := fun i Wi hWi hi => by
  subst hWi
  refine ⟨B_b (by rw [List.length_take]; omega), ?_⟩
  rw [show 8 * (g.bitsAt + i) = 8 * g.bitsAt + 8 * i by omega, show 8 * (i + 1) = 8 * i + 8 by omega]
  exact W_u (by omega) (by omega)
 refine C_d (Good := fun n (self : L2) => ∀ (i : Nat) (y : Value) (u : Hs), i + n = g.bitsN → ((i = 0 ∧ Sto h [p] u [.blk p (.row t 0 true fl [.int .i64 (.ofNat g.b), .int .i64 (.ofNat g.n), .int .i64 (.ofNat g.c), .int .i64 (.ofNat g.k), .slice a (Wl W).length c]), .rsl (.slice a (Wl W).length c) 1 (Wl W), .rsl v 1 (Wl ws)]) ∨ (1 ≤ i ∧ ∃ s1 fl', Sto h [p] u [.osl s1 50 1 true W.length (Wc (putW W (8 * g.bitsAt) (ws.take (8 * i)))), .blk p (.row t 0 true fl' [.int .i64 (.ofNat g.b), .int .i64 (.ofNat g.n), .int .i64 (.ofNat g.c), .int .i64 (.ofNat g.k), s1]), .rsl v 1 (Wl ws)])) → WP (self (.int .i64 (.ofNat i)) y u) _) (fun n self ih i y u hi H1 => ?_) N g.bitsN (by omega) 0 _ _ (by omega) (.inl ⟨rfl, H⟩)
 clear H
 rcases H1 with ⟨i0, H⟩ | ⟨i0, s1, fl1, H⟩
 ·subst i0
  repeat' (first | (with_reducible first | refine w_jn ?_ | refine A_l ?_) | ((with_reducible refine A_r (fun _ => ?_) (fun _ => ?_)) <;> first | (exfalso; omega) | skip) | ((with_reducible first | refine A_m ?_ ?_ | refine C_h ?_ ?_) ; omega))
  refine O_c 2 H rfl (by omega) (by omega) fun v2 H2 => ?_
  clear H; have H := H2; clear H2
  rw [H_x, J_6, show 8 * 0 + 8 - 8 * 0 = 8 by omega] at H
  have p8 : ((ws.drop (8 * 0)).take 8).length = 8 := by rw [List.length_take, List.length_drop]; omega
  refine A_1 (cp u t fl g _ v2 W _ p (g.bitsAt + 0) (by omega) (by omega) p8 (H.rd 2 rfl) (H.rd 0 rfl) (H.neR (i := 1) (j := 2) rfl rfl (by decide)) (H.neR (i := 1) (j := 0) rfl rfl (by decide)) (H.lt 1 rfl) (H.ok _ (List.mem_of_getElem? (i := 1) rfl))) fun r u2 hm => ?_
  obtain ⟨rfl, mu, s2, fl2, hh, tb, ti⟩ := hm
  replace H := H.mutN 1 rfl mu hh tb ti
  dsimp only [List.set_cons_zero, List.set_cons_succ] at H
  rw [(st 0 W (by rw [Nat.mul_zero, List.take_zero]; exact (N_y (ws := ws)).symm) (by omega)).2] at H
  replace H := H.sel [0, 2, 4] 5 rfl (by decide) (by decide); dsimp only [List.filterMap_cons, List.filterMap_nil, List.getElem?_cons_zero, List.getElem?_cons_succ] at H
  repeat' (first | ((with_reducible refine A_m ?_ ?_) ; omega))
  exact ih (n - 1) (by omega) 1 _ _ (by omega) (.inr ⟨Nat.le_refl _, s2, fl2, H⟩)
 ·obtain ⟨Wi, hWi⟩ : ∃ Wi, Wi = putW W (8 * g.bitsAt) (ws.take (8 * i)) := ⟨_, rfl⟩
  have wl : Wi.length = W.length := by rw [hWi]; exact B_b (by rw [List.length_take]; omega)
  rw [← hWi] at H
  obtain ⟨a1, c1, rfl⟩ := (show OwnSl u s1 50 1 _ W.length (Wc Wi) from H.ok _ (List.mem_of_getElem? (i := 0) rfl)).form
  repeat' (first | (with_reducible first | refine w_jn ?_ | refine A_l ?_ | refine A_j ?_) | ((with_reducible refine A_r (fun _ => ?_) (fun _ => ?_)) <;> first | (exfalso; omega) | skip) | ((with_reducible first | refine A_m ?_ ?_ | refine C_h ?_ ?_) ; omega))
  ·refine O_c 2 H rfl (by omega) (by omega) fun v2 H2 => ?_
   clear H; have H := H2; clear H2
   rw [H_x, J_6, show 8 * i + 8 - 8 * i = 8 by omega] at H
   have p8 : ((ws.drop (8 * i)).take 8).length = 8 := by rw [List.length_take, List.length_drop]; omega
   have rd := H.rdO 1 rfl
   have oi := (OwnSl.rd1 (show OwnSl u _ 50 1 _ W.length (Wc Wi) from H.ok _ (List.mem_of_getElem? (i := 1) rfl))).2
   rw [← B_n] at rd oi
   refine A_1 (cp u t fl1 g _ v2 Wi _ p (g.bitsAt + i) (by omega) (by omega) p8 rd (H.rd 0 rfl) (fun q => H.dj 2 1 _ _ rfl rfl (by decide) rfl p rfl (oi p q)) (H.neR (i := 2) (j := 0) rfl rfl (by decide)) (H.lt 2 rfl) (H.ok _ (List.mem_of_getElem? (i := 2) rfl))) fun r u2 hm => ?_
   obtain ⟨rfl, mu, s2, fl2, hh, tb, ti⟩ := hm
   replace H := H.mutN 2 rfl mu hh tb ti
   dsimp only [List.set_cons_zero, List.set_cons_succ] at H
   rw [(st i Wi hWi (by omega)).2, wl] at H
   replace H := H.sel [0, 3, 4] 5 rfl (by decide) (by decide); dsimp only [List.filterMap_cons, List.filterMap_nil, List.getElem?_cons_zero, List.getElem?_cons_succ] at H
   repeat' (first | ((with_reducible refine A_m ?_ ?_) ; omega))
   exact ih (n - 1) (by omega) (i + 1) _ _ (by omega) (.inr ⟨by omega, s2, fl2, H⟩)
  ·have ei : i = g.bitsN := by omega
   subst ei
   rw [List.take_of_length_le (by omega)] at hWi
   subst hWi
   have o := H.ok _ (List.mem_of_getElem? (i := 0) rfl)
   have o : OwnSl u (.slice a1 W.length c1) 50 1 true W.length (Wc (putW W (8 * g.bitsAt) ws)) := o
   rcases o.2 with ⟨_, z⟩ | ⟨id, _, _, _, _, e9, _⟩
   ·omega
   ·injection e9 with e9 _ _
    subst e9
    have i1 := H.ids _ (List.mem_of_getElem? (i := 0) rfl) id rfl
    have i2 : h.nx ≤ id := by
     rcases i1.2 rfl with k1 | k1
     ·exact k1
     ·have : id = p := by simpa using k1
      exact absurd this (fun q => H.dj 0 1 _ _ rfl rfl (by decide) rfl id rfl (by rw [q]; rfl))
    exact a_q 1 0 H rfl rfl rfl (by decide) hp (l_f ho r1 wz (H.ok _ (List.mem_of_getElem? (i := 1) rfl)) i2) fun h'' mu hh tb ti => ⟨rfl, mu, _, _, hh, tb, ti⟩
set_option linter.unusedSimpArgs false
def CSetBitsI (R : RnK) : Prop := ∀ (h : Hs) (t : Nat) (fl : Bool) (g : Geo) (s v : Value) (W ws : List Nat) (p : Nat), g.Ok → W.length = 8 * g.b → ws.length = 8 * g.bitsN → Rd h s 1 (Wl W) → Rd h v 1 (Wl ws) → Th.id (.rsl s 1 (Wl W)) ≠ some p → Th.id (.rsl v 1 (Wl ws)) ≠ some p → p < h.nx →
 Holds (h.hp.get p) (.row t 0 true fl (imgC g s)) →
 WP (R 36 [.pointer (some ⟨p, 0, none⟩), v] h) fun r h' => r = .tuple #[] ∧ Mut h h' p ∧ ∃ s' fl', Holds (h'.hp.get p) (.row t 0 true fl' (imgC g s')) ∧ (Th.osl s' 50 1 true W.length (Wc (putW W (8 * g.bitsAt) ws))).body h' ∧ ∀ b', (Th.osl s' 50 1 true W.length (Wc (putW W (8 * g.bitsAt) ws))).id = some b' → h.nx ≤ b' ∧ b' < h'.nx
def CBitsOfR (R : RnK) : Prop := ∀ (g : Geo) (h : Hs), g.Ok → WP (R 37 [g.v, .slice none 0 0] h) fun v h' => New h h' (OW v (setBits (List.replicate (8 * g.bitsN) 0) true (B_7 g g.b)))
def CLostNodeR (R : RnK) : Prop := ∀ (g : Geo) (h : Hs), g.Ok → WP (R 35 [g.v] h) fun v h' => ∃ a c, v = (C_x g).v a c ∧ New h h' (.osl (.slice a 1 c) 130 2 true 1 [.int .i64 (.ofNat g.lostAt), .int .i64 (.ofNat g.n)])
def V_r (g : Geo) : List Nat :=
 putW (putW (putW (putW (putW (List.replicate (8 * g.b) 0) 0 (B_z g 0)) (8 * (g.b - 1)) (B_z g 0)) (8 * g.nodeAt 1) (B_x rootN)) (8 * g.nodeAt 2) (B_x (C_x g))) (8 * g.bitsAt) (setBits (List.replicate (8 * g.bitsN) 0) true (B_7 g g.b))
theorem S_2 {Q : Value → Hs → Prop} {h0 h : Hs} {S : List Nat} {m : List Th} {t u b n : Nat} {z : List Value} {k1 k2 : IntKind} {F : KV} (H : Sto h0 S h m) (hb : b * n ≤ 281474976710656) (hz : B_d z = true)
 (kk : ∀ h', Sto h0 S h' (.blk h.nx (.row t u true true (rep z n)) :: m) → h'.nx = h.nx + 1 → WP (F (.slice (some ⟨h.nx, 0, none⟩) n n) h') Q) : WP (after (fun v w => dPut F v (A_w h w .make) (andB (dFit h w .make) (Nat.ble 0 w.lo))) (mkslice1 t u b z (Hs.mk .e h.nx h.nx) (B_2 (.int k1 (.ofNat n))) (B_2 (.int k2 (.ofNat n))))) Q := by
 have : mkslice1 t u b z (Hs.mk .e h.nx h.nx) (B_2 (.int k1 (.ofNat n))) (B_2 (.int k2 (.ofNat n))) = some (.slice (some ⟨h.nx, 0, none⟩) n n, Gev.newRow ⟨.e, h.nx, h.nx⟩ t u (rep z n)) := by
  show (match Nat.ble n n with | false => none | true => match Nat.ble (b * n) 281474976710656 with | false => none | true => some (Value.slice (some ⟨h.nx, 0, none⟩) n n, Gev.newRow ⟨.e, h.nx, h.nx⟩ t u (rep z n))) = _
  rw [Nat.ble_eq_true_of_le (Nat.le_refl n), Nat.ble_eq_true_of_le hb]
 rw [this]
 show WP (dPut F _ (A_w h (Gev.newRow ⟨.e, h.nx, h.nx⟩ t u (rep z n)) .make) (andB (dFit h (Gev.newRow ⟨.e, h.nx, h.nx⟩ t u (rep z n)) .make) (Nat.ble 0 h.nx))) Q
 have q := H.rowM (t := t) (u := u) (cs := rep z n)
 rw [O_q hz] at q
 rw [q.1, F_5]
 exact kk _ q.2 rfl
theorem I_w {Q : Value → Hs → Prop} {R : RnK} (cp : CPutI R) {h0 u : Hs} {m : List Th} {p t at_ n : Nat} {fl : Bool} {g : Geo} {s v : Value} {W ws : List Nat} {K : KV} (H : Sto h0 [] u (.rsl v 1 (Wl ws) :: .blk p (.row t 0 true fl (imgC g s)) :: .osl s 50 1 true n (Wc W) :: m)) (hn : W.length = n) (hW : W.length ≤ 10000) (ha : 8 * at_ + 8 ≤ W.length) (hw : ws.length = 8)
 (kk : ∀ s' fl' u', Sto h0 [] u' (.blk p (.row t 0 true fl' (imgC g s')) :: .osl s' 50 1 true n (Wc (putW W (8 * at_) ws)) :: m) → (putW W (8 * at_) ws).length = n → u.nx ≤ u'.nx → WP (K (.tuple #[]) u') Q) : WP (A_h R 31 [.pointer (some ⟨p, 0, none⟩), .int .i64 (.ofNat at_), v] u K) Q := by
 subst hn
 have rd := H.rdO 2 rfl
 have oi := (OwnSl.rd1 (show OwnSl u s 50 1 true W.length (Wc W) from H.ok _ (List.mem_of_getElem? (i := 2) rfl))).2
 rw [← B_n] at rd oi
 refine A_1 (cp u t fl g s v W ws p at_ hW ha hw rd (H.rd 0 rfl) (fun q => H.dj 1 2 _ _ rfl rfl (by decide) rfl p rfl (oi p q)) (H.neR (i := 1) (j := 0) rfl rfl (by decide)) (H.lt 1 rfl) (H.ok _ (List.mem_of_getElem? (i := 1) rfl))) fun r u2 hm => ?_
 obtain ⟨rfl, mu, s2, fl2, hh, tb, ti⟩ := hm
 have H2 := H.mutN 1 rfl mu hh tb ti
 have e : (putW W (8 * at_) ws).length = W.length := B_b (by omega)
 refine kk s2 fl2 u2 ?_ e mu.1
 dsimp only [List.set_cons_succ, List.set_cons_zero] at H2
 refine (H2.tail.tail.tail.tail.cons (.osl s2 50 1 true W.length (Wc (putW W (8 * at_) ws))) (H2.ok _ (List.mem_of_getElem? (i := 0) rfl)) (fun b hb => H2.ids _ (List.mem_of_getElem? (i := 0) rfl) b hb) fun s hs _ b hb hb' => ?_).cons (.blk p (.row t 0 true fl2 (imgC g s2))) (H2.ok _ (List.mem_of_getElem? (i := 2) rfl)) (fun b hb => H2.ids _ (List.mem_of_getElem? (i := 2) rfl) b hb) fun s hs _ b hb hb' => ?_
 ·obtain ⟨i, hi⟩ := List.getElem?_of_mem hs
  exact H2.dj 0 (i + 4) _ _ rfl hi (by omega) rfl b hb hb'
 ·rcases List.mem_cons.1 hs with rfl | hs
  ·exact H2.dj 2 0 _ _ rfl rfl (by decide) rfl b hb hb'
  ·obtain ⟨i, hi⟩ := List.getElem?_of_mem hs
   exact H2.dj 2 (i + 4) _ _ rfl hi (by omega) rfl b hb hb'
theorem _root_.Go.Gev.New.rdU {h h' : Hs} {v : Value} {e u n : Nat} {fl : Bool} {L : List Value} {Ls : List (List Value)} (w : New h h' (.osl v e u fl n L)) (hL : L = Ls.flatten) (hu : ∀ l ∈ Ls, l.length = u) (hn : Ls.length = n) : New h h' (.rsl v u Ls) := by
 obtain ⟨n1, ⟨hl, o⟩, n3⟩ := w
 rcases o with ⟨rfl, hz⟩ | ⟨id, c, cs, sz, f, rfl, hc, hb, hf, hsz, hc'⟩
 ·obtain rfl : Ls = [] := List.eq_nil_of_length_eq_zero (by omega)
  exact ⟨n1, (Rd.none _ _).1, fun b hb => by cases hb⟩
 ·refine ⟨n1, ⟨hu, .inr ⟨id, 0, c, cs, sz, _, u, true, f, by rw [hn], by omega, hb, .inr rfl, fun i j x hi hj => ?_⟩⟩, fun b hb => n3 b ?_⟩
  ·have hx := flatten_get hu i j hj
   rw [hi] at hx
   have h1 := (List.getElem?_eq_some_iff.1 hi).1
   have h2 : (i + 1) * u ≤ n * u := Nat.mul_le_mul_right _ (by omega)
   rw [Nat.add_mul] at h2
   rw [Nat.zero_add, hc' _ (by rw [hl]; omega), hL]
   exact hx
  ·cases Ls with
   | nil => cases hb
   | cons x l => exact hb
theorem N_f {g : Geo} (x : g.Ok) : (C_x g).fits := by
 have h1 := x.1.num
 have h2 := x.1.b2
 have h3 := x.2
 have h4 := x.1.n2
 have h5 := x.1.n1
 unfold Nd.fits C_x
 rw [if_neg (show ¬ (2 : Nat) = 0 by decide)]
 refine ⟨show (2 : Nat) ≤ 3 by decide, show (1 : Nat) ≤ 16777215 by decide, by show g.n ≤ _; omega, show 1 ≤ 4 by decide, ?_⟩
 show (B_t (g.lostAt, g.n) && true) = true
 rw [Bool.and_true]
 unfold B_t Geo.lostAt
 simp
 omega
theorem S_t {g : Geo} {i : Nat} (x : g.Ok) : 8 * g.nodeAt i + 8 ≤ 8 * g.b := by
 have h3 := x.1.num
 have h4 := x.2
 have h5 := x.1.b1
 unfold Geo.nodeAt
 split <;> omega
theorem d_2 {R : RnK} {N : Nat} (cg : CGoodR R) (cph : CPutR R) (cp : CPutI R) (cn : CNodeR R) (cpn : CPutNodeR R) (cl : CLostNodeR R) (cb : CBitsOfR R) (cs : CSetBitsI R) {g : Geo} {h : Hs} (x : g.Ok) :
 WP (r9 R N [g.v] h) fun v h' => New h h' (OW v (V_r g)) := by
 have cgg := cg g
 have cphh := fun u => (cph g 0 u (by omega)).1 x
 have cng := fun i u hi => cn g i u x hi
 have clh := fun u => cl g u x
 have cbh := fun u => cb g u x
 have csh := cs
 unfold r9 Geo.v
 unfold Geo.v at cgg cphh cng clh cbh
 have H := Sto.enter h
 have h1 := x.1.num
 have h2 := x.1.b2
 have h3 := x.2
 have h6 := x.1.n2
 repeat' (first | ((refine B_a (cgg _) (fun _ => ?_) (fun _ => ?_)) <;> first | (exfalso; omega) | skip) | (with_reducible first | refine w_jn ?_ | refine A_l ?_ | refine A_j ?_ | refine B_k ?_ | refine B_u ?_ | refine A_0 ?_ | refine A_3 ?_ | refine A_e ?_) | ((with_reducible refine A_8 H ?_) ; (clear H; intro u H hu)) | ((with_reducible refine C_h ?_ ?_) ; omega) | ((with_reducible apply A_q 0 H) ; rfl; rfl; rfl) | ((with_reducible apply A_f 0 H) ; rfl; rfl; rfl))
 rotate_left
 ·exact absurd x (by assumption)
 refine S_2 H (by omega) rfl fun u1 H1 hu1 => ?_
 clear H
 have H := H1
 clear H1
 rw [d_m] at H
 replace H := H.osl 0 rfl (n := 8 * g.b) (c := 8 * g.b) (by rw [D_3, List.length_replicate]; omega) (Nat.le_refl _)
 dsimp only [List.set_cons_zero] at H
 repeat' (first | (with_reducible refine C_z ?_) | ((with_reducible apply A_9) ; rfl; (try dsimp only [splice, ev, A_b, rep, List.cons_append, List.nil_append])) | ((with_reducible refine k_n H ?_) ; (clear H; intro u H hu)) | ((with_reducible apply A_f 2 H) ; rfl; rfl; rfl))
 have x2 := x.1.b1
 have lz : (List.replicate (8 * g.b) 0).length = 8 * g.b := List.length_replicate
 have hl : (B_z g 0).length = 8 := rfl
 refine A_1 (cphh _) fun v2 u2 n2 => ?_
 replace n2 := n2.ones
 rw [← B_n] at n2
 replace H := H.call n2
 refine I_w cp H lz (by omega) (by omega) hl fun s3 fl3 u3 H3 l1 hn3 => ?_
 clear H
 have H := H3
 clear H3
 generalize hW1 : putW (List.replicate (8 * g.b) 0) (8 * 0) (B_z g 0) = W1 at *
 repeat' (first | (with_reducible refine A_e ?_) | ((with_reducible refine C_n ?_ ?_ ?_) ; omega; omega) | ((with_reducible apply A_q 2 H) ; rfl; rfl; rfl) | ((with_reducible apply A_f 2 H) ; rfl; rfl; rfl))
 refine A_1 (cphh _) fun v4 u4 n4 => ?_
 replace n4 := n4.ones
 rw [← B_n] at n4
 refine Q_7 n4 fun u5 n5 => ?_
 replace H := H.call n5
 refine I_w cp H l1 (by omega) (by omega) hl fun s6 fl6 u6 H6 l2 hn6 => ?_
 clear H
 have H := H6
 clear H6
 generalize hW2 : putW W1 (8 * (g.b - 1)) (B_z g 0) = W2 at *
 refine E_0 hn6 ?_
 repeat' (first | (refine A_n (cng 1 _ (by omega)) ?_) | ((with_reducible apply A_9) ; rfl; (try dsimp only [splice, ev, A_b, rep, List.cons_append, List.nil_append])) | ((with_reducible apply A_f 2 H) ; rfl; rfl; rfl))
 have f1 : rootN.fits := by decide
 refine A_1 (cpn rootN none 0 u6 (by decide) (Rd.none _ _) f1 (by decide) (by decide)) fun v7 u7 n7 => ?_
 replace n7 := n7.ones
 rw [← B_n] at n7
 replace H := H.call n7
 have na : ∀ i, 8 * g.nodeAt i + 8 ≤ 8 * g.b := fun i => S_t x
 refine I_w cp H l2 (by omega) (by have := na 1; omega) E_u fun s8 fl8 u8 H8 l3 hn8 => ?_
 clear H
 have H := H8
 clear H8
 generalize hW3 : putW W2 (8 * g.nodeAt 1) (B_x rootN) = W3 at *
 repeat' (first | ((with_reducible apply A_f 2 H) ; rfl; rfl; rfl))
 refine A_n (cng 2 _ (by omega)) ?_
 refine C_9 ?_
 repeat' (first | ((with_reducible apply M_r 2 H) ; rfl; rfl; (intro _; simp only [HidOk, and_true]; omega)))
 refine A_1 (clh _) fun v9 u9 hv => ?_
 obtain ⟨a9, c9, rfl, n9⟩ := hv
 refine E_0 n9.1.1.1 ?_
 replace n9 := n9.rdU (Ls := Rl (C_x g).rs) rfl (L_n _) rfl
 replace H := H.call n9
 have fl : (C_x g).fits := N_f x
 refine A_1 (cpn (C_x g) a9 c9 u9 (by show 1 < _; omega) (H.rd 0 rfl) fl (show ¬ 2 = 0 by omega) (show 1 ≤ _ by omega)) fun v10 u10 n10 => ?_
 refine E_0 n10.1.1.1 ?_
 replace n10 := n10.ones
 rw [← B_n] at n10
 replace H := H.call n10
 replace H := H.sel [0, 2, 3, 4] 5 rfl (by decide) (by decide); dsimp only [List.filterMap_cons, List.filterMap_nil, List.getElem?_cons_zero, List.getElem?_cons_succ] at H
 refine I_w cp H l3 (by omega) (by have := na 2; omega) E_s fun s11 fl11 u11 H11 l4 hn11 => ?_
 clear H
 have H := H11
 clear H11
 refine E_0 hn11 ?_
 generalize hW4 : putW W3 (8 * g.nodeAt 2) (B_x (C_x g)) = W4 at *
 repeat' (first | ((with_reducible apply A_f 2 H) ; rfl; rfl; rfl))
 refine A_1 (cbh _) fun v12 u12 n12 => ?_
 replace n12 := n12.ones
 rw [← B_n] at n12
 replace H := H.call n12
 have lb : (setBits (List.replicate (8 * g.bitsN) 0) true (B_7 g g.b)).length = 8 * g.bitsN := by rw [D_m, List.length_replicate]
 generalize hB : setBits (List.replicate (8 * g.bitsN) 0) true (B_7 g g.b) = B at *
 have rd := H.rdO 2 rfl
 have oi := (OwnSl.rd1 (show OwnSl u12 s11 50 1 true (8 * g.b) (Wc W4) from H.ok _ (List.mem_of_getElem? (i := 2) rfl))).2
 rw [← B_n] at rd oi
 refine A_1 (cs u12 _ fl11 g s11 v12 W4 B u1.nx x l4 lb rd (H.rd 0 rfl) (fun q => H.dj 1 2 _ _ rfl rfl (by decide) rfl u1.nx rfl (oi _ q)) (H.neR (i := 1) (j := 0) rfl rfl (by decide)) (H.lt 1 rfl) (H.ok _ (List.mem_of_getElem? (i := 1) rfl))) fun r13 u13 hm => ?_
 obtain ⟨rfl, mu, s13, fl13, hh, tb, ti⟩ := hm
 replace H := H.mutN 1 rfl mu hh tb ti
 dsimp only [List.set_cons_succ, List.set_cons_zero] at H
 unfold imgC at H
 repeat' (first | (with_reducible first | refine A_e ?_ | refine d_z ?_) | ((with_reducible apply A_q 2 H) ; rfl; rfl; rfl))
 have pl : (putW W4 (8 * g.bitsAt) B).length = W4.length := B_b (by omega)
 have e : putW W4 (8 * g.bitsAt) B = V_r g := by
  rw [← hW4, ← hW3, ← hW2, ← hW1, ← hB]
  rfl
 rw [← pl, e] at H
 exact F_c 0 H rfl fun v' h' n => n
theorem O_f {g : Geo} : ∀ i, setBits (List.replicate ((g.b + 63) / 64) 0) true (B_7 g i) = A_6 g i := by
 intro i
 induction i with
 | zero => rfl
 | succ i ih =>
  rw [J_i]
  unfold A_6
  rw [List.range_succ, List.foldl_append]
  show _ = D_p g (A_6 g i) i
  unfold D_p
  rw [← ih]
  unfold setBits
  rw [List.foldl_append]
  by_cases q : i < g.dataAt ∨ g.dataAt + g.dataN ≤ i
  ·rw [if_pos q, if_pos q]; rfl
  ·rw [if_neg q, if_neg q]; rfl
end Go.Proofs.YtdgcebfncbmbfaaGreatDoor.imageMakes

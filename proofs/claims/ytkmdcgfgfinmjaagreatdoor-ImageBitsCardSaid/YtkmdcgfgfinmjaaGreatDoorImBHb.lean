/- Contracts of functions, by the logic of residual programs. -/
import Derived.Test.YtkmdcgfgfinmjaaGreatDoorImBHo
namespace Go.Proofs.YtkmdcgfgfinmjaaGreatDoor.imageBits
open Go Go.Gev
set_option linter.unusedVariables false
def CTurn (R : RnK) : Prop := ∀ (x : Nat) (h : Hs), x < 18446744073709551616 → R 113 [.int .u64 (.ofNat x), .int .i64 (.ofNat 9)] h = some (.val (.int .u64 (.ofNat (rot x 9))) h)
theorem turn_ok {R : RnK} {N : Nat} {x : Nat} {h : Hs} (hx : x < 18446744073709551616) : r113 R N [.int .u64 (.ofNat x), .int .i64 (.ofNat 9)] h = some (.val (.int .u64 (.ofNat (rot x 9))) h) := by
  refine WP.eqn ?_
  unfold r113
  have H := Sto.enter h
  have e1 : 9 % 64 = 9 := rfl
  repeat' (first | (with_reducible refine w_jn ?_) | (with_reducible refine w_cndF ?_) | (with_reducible refine w_unC ?_) | (with_reducible refine w_enK ?_) | ((with_reducible refine w_lss_NN (fun _ => ?_) (fun _ => ?_)) <;> first | (exfalso; omega) | skip) | ((with_reducible refine w_eql_NN (fun _ => ?_) (fun _ => ?_)) <;> first | (exfalso; omega) | skip) | ((with_reducible refine w_rem_NN ?_ ?_) ; omega) | ((with_reducible refine w_toU ?_ ?_) ; omega) | ((with_reducible refine w_shr ?_ ?_) ; omega) | ((with_reducible refine w_shl ?_ ?_) ; omega) | ((with_reducible refine w_sub_NN ?_ ?_ ?_) ; omega; omega))
  rw [e1]
  repeat' (first | ((with_reducible refine w_uor ?_ ?_ ?_) ; omega; omega))
  exact w_clr H rfl ⟨rfl, rfl⟩
def CSealR (R : RnK) : Prop := ∀ (s : Nat) (l : List Nat) (v : Value) (h : Hs), s < 18446744073709551616 → Small l → l.length < 100000 → Rd h v 1 (Wl l) → R 93 [.int .u64 (.ofNat s), v] h = some (.val (.int .u64 (.ofNat (sealOn s l))) h)
theorem sealR_ok {R : RnK} {N : Nat} (c : CTurn R) {s : Nat} {l : List Nat} {v : Value} {h : Hs} (hs : s < 18446744073709551616) (hl : Small l) (hr : Rd h v 1 (Wl l)) (hN : l.length < N) (hb : l.length < 1000000) :
    r93 R N [.int .u64 (.ofNat s), v] h = some (.val (.int .u64 (.ofNat (sealOn s l))) h) := by
  refine WP.eqn ?_
  unfold r93
  have H := Sto.enter1 hr
  have e := Wl_len l
  repeat' (first | (with_reducible refine w_jn ?_) | (with_reducible refine w_unC ?_) | (with_reducible refine w_enK ?_))
  refine lp_ind (Good := fun n (self : L3) => ∀ (i s : Nat) (x : Value), i + n = l.length → s < 18446744073709551616 → WP (self (.int .i64 (.ofNat i)) x (.int .u64 (.ofNat s)) ⟨h.hp, h.nx, h.nx⟩) (fun v' h' => v' = .int .u64 (.ofNat (sealOn s (l.drop i))) ∧ h' = h)) (fun n self ih i s x hi hs => ?_) N l.length (by omega) 0 s _ (by omega) hs
  repeat' (first | (with_reducible refine w_jn ?_) | (with_reducible refine w_cndT ?_) | (with_reducible refine w_cndF ?_) | ((with_reducible refine w_lss_NN (fun _ => ?_) (fun _ => ?_)) <;> first | (exfalso; omega) | skip) | ((with_reducible apply w_lenR 0 H) ; rfl))
  · have hi : i < l.length := by omega
    refine w_callE (c _ _ hs) ?_
    have h1 := rot_lt (s := 9) hs
    have h2 := hl l[i] (List.getElem_mem hi)
    repeat' (first | (with_reducible refine w_light0 ?_))
    refine w_at1D 0 H rfl (Wl_get hi) rfl (fun b hb => by simp only [HidOk, and_true]; omega) ?_
    repeat' (first | ((with_reducible refine w_add_NN ?_ ?_) ; omega) | ((with_reducible refine w_uxor ?_ ?_ ?_) ; omega; omega))
    have e : sealOn s (l.drop i) = sealOn (rot s 9 ^^^ l[i]) (l.drop (i + 1)) := by rw [List.drop_eq_getElem_cons hi]; rfl
    rw [e]
    exact ih (n - 1) (by omega) (i + 1) _ _ (by omega) (xor_lt h1 h2)
  · rw [List.drop_of_length_le (by omega)]
    exact w_clr H rfl ⟨rfl, rfl⟩
def COfR (R : RnK) : Prop := ∀ (l : List Nat) (v : Value) (h : Hs), Small l → l.length < 100000 → Rd h v 1 (Wl l) → R 66 [v] h = some (.val (.int .u64 (.ofNat (sealOf l))) h)
theorem ofR_ok {R : RnK} {N : Nat} (c : CSealR R) {l : List Nat} {v : Value} {h : Hs} (hl : Small l) (hb : l.length < 100000) (hr : Rd h v 1 (Wl l)) :
    r66 R N [v] h = some (.val (.int .u64 (.ofNat (sealOf l))) h) := by
  refine WP.eqn ?_
  unfold r66
  have H := Sto.enter1 hr
  refine w_callE (c 7811896474847682849 l _ _ (by omega) hl hb (H.rd 0 rfl)) ?_
  exact w_clr H rfl ⟨rfl, rfl⟩
def CBitB (R : RnK) : Prop := ∀ (g : Geo) (h : Hs), g.b ≤ 100000 → R 64 [g.v] h = some (.val (.int .i64 (.ofNat g.bitsN)) h)
theorem bitB_ok {R : RnK} {N : Nat} {g : Geo} {h : Hs} (x : g.b ≤ 100000) : r64 R N [g.v] h = some (.val (.int .i64 (.ofNat g.bitsN)) h) := by
  refine WP.eqn ?_
  unfold r64 Geo.v
  have H := Sto.enter h
  repeat' (first | (with_reducible refine w_unC ?_) | (with_reducible refine w_enK ?_) | (with_reducible refine w_fieldA ?_) | ((with_reducible refine w_boxA H ?_) ; (clear H; intro u H hu)) | ((with_reducible refine w_add_NN ?_ ?_) ; omega) | ((with_reducible refine w_quo_NN ?_ ?_ ?_) ; omega; omega) | ((with_reducible apply w_load 0 H) ; rfl; rfl; rfl))
  exact w_clr H rfl ⟨rfl, rfl⟩
def CMagic (R : RnK) : Prop := ∀ (h : Hs), R 65 [] h = some (.val (.int .u64 (.ofNat 5497010944029229057)) h)
theorem magic_ok {R : RnK} {N : Nat} {h : Hs} : r65 R N [] h = some (.val (.int .u64 (.ofNat 5497010944029229057)) h) := by
  refine WP.eqn ?_
  unfold r65
  have H := Sto.enter h
  repeat' (first | (with_reducible refine w_enK ?_))
  exact w_clr H rfl ⟨rfl, rfl⟩
def CGoodR (R : RnK) : Prop := ∀ (g : Geo) (h : Hs), R 36 [g.v] h = some (.val (.bool (decide g.Ok)) h)
theorem goodR_ok {R : RnK} {N : Nat} (cb : CBitB R) {g : Geo} {h : Hs} : r36 R N [g.v] h = some (.val (.bool (decide g.Ok)) h) := by
  refine WP.eqn ?_
  unfold r36 Geo.v
  have H := Sto.enter h
  have cbg := cb g
  unfold Geo.v at cbg
  repeat' (first | (with_reducible refine w_jn ?_) | (with_reducible refine w_cndT ?_) | (with_reducible refine w_cndF ?_) | (with_reducible refine w_gFt ?_) | (with_reducible refine w_gFf ?_) | (with_reducible refine w_pickT ?_) | (with_reducible refine w_pickF ?_) | (with_reducible refine w_unC ?_) | (with_reducible refine w_enK ?_) | (with_reducible refine w_fieldA ?_) | ((with_reducible refine w_boxA H ?_) ; (clear H; intro u H hu)) | ((with_reducible refine w_lss_NN (fun _ => ?_) (fun _ => ?_)) <;> first | (exfalso; omega) | skip) | ((with_reducible refine w_gtr_NN (fun _ => ?_) (fun _ => ?_)) <;> first | (exfalso; omega) | skip) | ((with_reducible apply w_load 0 H) ; rfl; rfl; rfl))
  all_goals first
    | exact w_clrB H (by unfold Geo.Ok; simp; intro x; have := x.1; have := x.2; have := x.3; have := x.4; have := x.5; have := x.6; have := x.7; have := x.8; omega)
    | skip
  have x : g.Box := ⟨by omega, by omega, by omega, by omega, by omega, by omega, by omega, by omega⟩
  have h1 := x.num
  have h2 := x.ck
  have h3 := x.b2
  have h4 := x.n2
  repeat' (first | (refine w_callE (cbg _ (by omega)) ?_) | (with_reducible refine w_fieldA ?_) | (with_reducible refine w_light0 ?_) | ((with_reducible refine w_lss_NN (fun _ => ?_) (fun _ => ?_)) <;> first | (exfalso; omega) | skip) | ((with_reducible refine w_add_NN ?_ ?_) ; omega) | ((with_reducible refine w_mul_NN ?_ ?_) ; omega) | ((with_reducible apply w_loadsF 0 H) ; rfl; rfl; rfl) | ((with_reducible apply w_loadD 0 H) ; rfl; rfl; (intro _; simp only [HidOk, and_true]; omega)))
  all_goals exact w_clrB H (by unfold Geo.Ok Geo.dataAt Geo.bitsAt; simp [x]; unfold Geo.bitsAt at h1; omega)
def CSameR (R : RnK) : Prop := ∀ (a b : List Nat) (v w : Value) (h : Hs), a.length < 100000 → Rd h v 1 (Wl a) → Rd h w 1 (Wl b) → R 92 [v, w] h = some (.val (.bool (decide (a = b))) h)
theorem sameR_ok {R : RnK} {N : Nat} {a b : List Nat} {v w : Value} {h : Hs} (hN : 100000 < N) (ha : a.length < 100000) (r1 : Rd h v 1 (Wl a)) (r2 : Rd h w 1 (Wl b)) : r92 R N [v, w] h = some (.val (.bool (decide (a = b))) h) := by
  refine WP.eqn ?_
  unfold r92
  have H := Sto.enter2 r1 r2
  have l1 := Wl_len a
  have l2 := Wl_len b
  repeat' (first | (with_reducible refine w_jn ?_) | (with_reducible refine w_cndT ?_) | (with_reducible refine w_cndF ?_) | (with_reducible refine w_unC ?_) | (with_reducible refine w_enK ?_) | ((with_reducible refine w_neq_NN (fun _ => ?_) (fun _ => ?_)) <;> first | (exfalso; omega) | skip) | ((with_reducible apply w_lenR 0 H) ; rfl) | ((with_reducible apply w_lenR 1 H) ; rfl))
  · refine lp_ind (Good := fun n (self : L4) => ∀ (i : Nat) (x1 x2 x3 : Value), i + n = a.length → (∀ j, j < i → a[j]? = b[j]?) → WP (self (.int .i64 (.ofNat i)) x1 x2 x3 ⟨h.hp, h.nx, h.nx⟩) (fun v' h' => v' = .bool (decide (a = b)) ∧ h' = h)) (fun n self ih i x1 x2 x3 hi hq => ?_) N a.length (by omega) 0 _ _ _ (by omega) (fun j hj => by omega)
    repeat' (first | (with_reducible refine w_jn ?_) | (with_reducible refine w_cndT ?_) | (with_reducible refine w_cndF ?_) | ((with_reducible refine w_lss_NN (fun _ => ?_) (fun _ => ?_)) <;> first | (exfalso; omega) | skip) | ((with_reducible apply w_lenR 0 H) ; rfl))
    · have ia : i < a.length := by omega
      have ib : i < b.length := by omega
      refine w_at1 0 H rfl (Wl_get ia) rfl rfl ?_
      refine w_at1 1 H rfl (Wl_get ib) rfl rfl ?_
      repeat' (first | (with_reducible refine w_jn ?_) | (with_reducible refine w_cndT ?_) | (with_reducible refine w_cndF ?_) | ((with_reducible refine w_uneq (fun _ => ?_) (fun _ => ?_)) <;> first | (exfalso; omega) | skip) | ((with_reducible refine w_add_NN ?_ ?_) ; omega))
      · refine ih (n - 1) (by omega) (i + 1) _ _ _ (by omega) fun j hj => ?_
        by_cases e : j = i
        · subst e; rw [List.getElem?_eq_getElem ia, List.getElem?_eq_getElem ib]; congr 1
        · exact hq j (by omega)
      · exact w_clrB H (by simp; intro e; subst e; exact absurd rfl ‹_›)
    · exact w_clrB H (by simp; exact List.ext_getElem? fun j => if hj : j < i then hq j hj else by rw [List.getElem?_eq_none (by omega), List.getElem?_eq_none (by omega)])
  · exact w_clrB H (by simp; intro e; subst e; omega)
def CWhole (R : RnK) : Prop := ∀ (l : List Nat) (v : Value) (h : Hs), l.length < 100000 → Rd h v 1 (Wl l) → R 62 [v] h = some (.val (.bool (decide (sized l))) h)
theorem whole_ok {R : RnK} {N : Nat} {l : List Nat} {v : Value} {h : Hs} (hb : l.length < 100000) (r : Rd h v 1 (Wl l)) : r62 R N [v] h = some (.val (.bool (decide (sized l))) h) := by
  refine WP.eqn ?_
  unfold r62
  have H := Sto.enter1 r
  have e := Wl_len l
  repeat' (first | (with_reducible refine w_gTt ?_) | (with_reducible refine w_gTf ?_) | (with_reducible refine w_pickT ?_) | (with_reducible refine w_pickF ?_) | (with_reducible refine w_unC ?_) | (with_reducible refine w_enK ?_) | ((with_reducible refine w_leq_NN (fun _ => ?_) (fun _ => ?_)) <;> first | (exfalso; omega) | skip) | ((with_reducible refine w_geq_NN (fun _ => ?_) (fun _ => ?_)) <;> first | (exfalso; omega) | skip) | ((with_reducible refine w_eql_NN (fun _ => ?_) (fun _ => ?_)) <;> first | (exfalso; omega) | skip) | ((with_reducible refine w_rem_NN ?_ ?_) ; omega) | ((with_reducible refine w_quo_NN ?_ ?_ ?_) ; omega; omega) | ((with_reducible apply w_lenR 0 H) ; rfl))
  all_goals exact w_clrB H (by unfold sized; simp; omega)
def CPutR (R : RnK) : Prop := ∀ (g : Geo) (ph : Nat) (h : Hs), ph < 18446744073709551616 → (g.Ok → WP (R 38 [g.v, .int .u64 (.ofNat ph)] h) fun v h' => New h h' (.osl v 24 1 true 8 (Wc (headW g ph)))) ∧ (¬ g.Ok → R 38 [g.v, .int .u64 (.ofNat ph)] h = some (.val (.slice none 0 0) h))
theorem putR_ok {R : RnK} {N : Nat} (cg : CGoodR R) (cm : CMagic R) (cs : COfR R) {g : Geo} {ph : Nat} {h : Hs} (hp : ph < 18446744073709551616) (x : g.Ok) : WP (r38 R N [g.v, .int .u64 (.ofNat ph)] h) fun v h' => New h h' (.osl v 24 1 true 8 (Wc (headW g ph))) := by
  have cgh := cg g
  unfold r38 Geo.v
  unfold Geo.v at cgh
  have H := Sto.enter h
  have h1 := x.1.b2; have h2 := x.1.n2; have h3 := x.1.c2; have h4 := x.1.k2
  repeat' (first | ((refine w_callB (cgh _) (fun _ => ?_) (fun _ => ?_)) <;> first | (exfalso; omega) | skip) | (refine w_callE (cm _) ?_) | (with_reducible refine w_jn ?_) | (with_reducible refine w_cndT ?_) | (with_reducible refine w_notF ?_) | (with_reducible refine w_unC ?_) | (with_reducible refine w_enK ?_) | (with_reducible refine w_fieldA ?_) | (with_reducible refine w_light0 ?_) | ((with_reducible refine w_bar ?_ ?_) ; omega) | ((with_reducible refine w_boxA H ?_) ; (clear H; intro u H hu)) | ((with_reducible apply w_mkrow H) ; rfl; (clear H; intro u H hu; (try dsimp only [List.set_cons_zero, List.set_cons_succ, cellsL, List.toList_toArray, splice, ev, rep, List.cons_append, List.nil_append] at H))) | ((with_reducible refine w_toU ?_ ?_) ; omega) | ((with_reducible apply w_loadsF 0 H) ; rfl; rfl; rfl) | ((with_reducible apply w_loadD 0 H) ; rfl; rfl; (intro _; simp only [HidOk, and_true]; omega)))
  · have r := H.rdB (n := 6) (c := 6) 0 rfl rfl (by omega)
    refine w_callE (cs [5497010944029229057, g.b, g.n, g.c, g.k, 0] _ _ (headW_small (ph := ph) x.1 hp) (by simp) (Rd.lo r _)) ?_
    repeat' (first | ((with_reducible apply w_mkrow H) ; rfl; (clear H; intro u H hu; (try dsimp only [List.set_cons_zero, List.set_cons_succ, cellsL, List.toList_toArray, splice, ev, rep, List.cons_append, List.nil_append] at H))))
    have H2 := H.osl 1 rfl (n := 6) (c := 6) rfl (Nat.le_refl _)
    refine w_appendB 1 0 H2 rfl rfl rfl rfl (by omega) (by omega) fun v' u' H' hn => ?_
    exact w_clrO 1 H' rfl fun v' h' n => n
  · exact absurd x ‹_›
theorem putR_no {R : RnK} {N : Nat} (cg : CGoodR R) {g : Geo} {ph : Nat} {h : Hs} (x : ¬ g.Ok) : r38 R N [g.v, .int .u64 (.ofNat ph)] h = some (.val (.slice none 0 0) h) := by
  refine WP.eqn ?_
  have cgh := cg g
  unfold r38 Geo.v
  unfold Geo.v at cgh
  have H := Sto.enter h
  repeat' (first | ((refine w_callB (cgh _) (fun _ => ?_) (fun _ => ?_)) <;> first | (exfalso; omega) | skip) | (with_reducible refine w_jn ?_) | (with_reducible refine w_cndT ?_) | (with_reducible refine w_cndF ?_) | (with_reducible refine w_notT ?_) | (with_reducible refine w_notF ?_) | (with_reducible refine w_unC ?_) | (with_reducible refine w_enK ?_) | ((with_reducible refine w_boxA H ?_) ; (clear H; intro u H hu)) | ((with_reducible apply w_loadsF 0 H) ; rfl; rfl; rfl))
  · exact absurd ‹_› x
  · exact w_clr H rfl ⟨rfl, rfl⟩
/-- what the document's own tells of a head -/
def hdR (p : Option (Geo × Nat)) : Value := match p with
  | some p => .tuple #[p.1.v, .int .u64 (.ofNat p.2), .bool true]
  | none => .tuple #[(⟨0, 0, 0, 0⟩ : Geo).v, .int .u64 (.ofNat 0), .bool false]
theorem getR_ok {R : RnK} {N : Nat} (cp : CPutR R) (ce : CSameR R) {l : List Nat} {v : Value} {h : Hs} (hN : 100 < N) (hl : Small l) (r : Rd h v 1 (Wl l)) : r63 R N [v] h = some (.val (hdR (getHead l)) h) := by
  refine WP.eqn ?_
  unfold r63
  have H := Sto.enter1 r
  have e := Wl_len l
  repeat' (first | (with_reducible refine w_jn ?_) | (with_reducible refine w_cndT ?_) | (with_reducible refine w_cndF ?_) | (with_reducible refine w_unC ?_) | (with_reducible refine w_enK ?_) | ((with_reducible apply w_build) ; rfl; (try dsimp only [splice, ev, cellsL, rep, List.cons_append, List.nil_append])) | ((with_reducible refine w_alloc H ?_) ; (clear H; intro u H hu)) | ((with_reducible refine w_neq_NN (fun _ => ?_) (fun _ => ?_)) <;> first | (exfalso; omega) | skip) | ((with_reducible apply w_storeV 0 H) ; rfl; rfl; rfl; omega; rfl; (clear H; intro u H hu; (try dsimp only [List.set_cons_zero, List.set_cons_succ, cellsL, List.toList_toArray, splice, ev, rep, List.cons_append, List.nil_append] at H))) | ((with_reducible apply w_retC 0 H) ; rfl; rfl; rfl) | ((with_reducible apply w_lenR 1 H) ; rfl))
  · obtain ⟨x0, x1, x2, x3, x4, x5, x6, x7, rfl⟩ : ∃ x0 x1 x2 x3 x4 x5 x6 x7, l = [x0, x1, x2, x3, x4, x5, x6, x7] := by
      have hlen : l.length = 8 := by omega
      match l, hlen with
      | [x0, x1, x2, x3, x4, x5, x6, x7], _ => exact ⟨_, _, _, _, _, _, _, _, rfl⟩
    refine lp_ind (Good := fun n (self : L5) => ∀ (i : Nat) (y1 y2 y3 y4 : Value), i + n = 5 → 1 ≤ i → (∀ j, 1 ≤ j → j < i → ∀ y, [x0, x1, x2, x3, x4, x5, x6, x7][j]? = some y → y ≤ 2000) → WP (self (.int .i64 (.ofNat i)) y1 y2 y3 y4 u) (fun v' h' => v' = hdR (getHead [x0, x1, x2, x3, x4, x5, x6, x7]) ∧ h' = h)) (fun n self ih i y1 y2 y3 y4 hi h1 hq => ?_) N 4 (by omega) 1 _ _ _ _ (by omega) (by omega) (fun j hj hj' => by omega)
    repeat' (first | (with_reducible refine w_jn ?_) | (with_reducible refine w_cndT ?_) | (with_reducible refine w_cndF ?_) | ((with_reducible refine w_lss_NN (fun _ => ?_) (fun _ => ?_)) <;> first | (exfalso; omega) | skip) | ((with_reducible apply w_at1 1 H) ; rfl; rfl; rfl; rfl))
    · have ia : i < [x0, x1, x2, x3, x4, x5, x6, x7].length := by simp; omega
      refine w_at1 1 H rfl (Wl_get ia) rfl rfl ?_
      repeat' (first | (with_reducible refine w_jn ?_) | (with_reducible refine w_cndT ?_) | (with_reducible refine w_cndF ?_) | ((with_reducible apply w_build) ; rfl; (try dsimp only [splice, ev, cellsL, rep, List.cons_append, List.nil_append])) | ((with_reducible refine w_ugtr (fun _ => ?_) (fun _ => ?_)) <;> first | (exfalso; omega) | skip) | ((with_reducible refine w_add_NN ?_ ?_) ; omega) | ((with_reducible apply w_storeV 0 H) ; rfl; rfl; rfl; omega; rfl; (clear H; intro u H hu; (try dsimp only [List.set_cons_zero, List.set_cons_succ, cellsL, List.toList_toArray, splice, ev, rep, List.cons_append, List.nil_append] at H))) | ((with_reducible apply w_retC 0 H) ; rfl; rfl; rfl))
      · have e : getHead [x0, x1, x2, x3, x4, x5, x6, x7] = none := getHead_none fun g ph x e => by
          have h1 := x.1.b2; have h2 := x.1.n2; have h3 := x.1.c2; have h4 := x.1.k2
          unfold headW at e
          simp only [List.cons.injEq, and_true] at e
          have : ∀ y, [x1, x2, x3, x4][i - 1]? = some y → y ≤ 1024 := fun y hy => by
            have := List.mem_of_getElem? hy
            simp only [List.mem_cons, List.not_mem_nil, or_false] at this
            omega
          have e2 : [x1, x2, x3, x4][i - 1]? = [x0, x1, x2, x3, x4, x5, x6, x7][i]? := by
            obtain ⟨k, rfl⟩ : ∃ k, i = k + 1 := ⟨i - 1, by omega⟩
            rw [Nat.add_sub_cancel, List.getElem?_cons_succ, show [x1, x2, x3, x4, x5, x6, x7] = [x1, x2, x3, x4] ++ [x5, x6, x7] from rfl, List.getElem?_append_left (by simp; omega)]
          have := this _ (e2.trans (List.getElem?_eq_getElem ia))
          omega
        rw [e]
        exact w_clr H rfl ⟨rfl, rfl⟩
      · refine ih (n - 1) (by omega) (i + 1) _ _ _ _ (by omega) (by omega) fun j hj1 hj y hy => ?_
        by_cases e : j = i
        · subst e; rw [List.getElem?_eq_getElem ia] at hy; injection hy with hy; omega
        · exact hq j hj1 (by omega) y hy
    · have b1 := hq 1 (by omega) (by omega) x1 rfl
      have b2 := hq 2 (by omega) (by omega) x2 rfl
      have b3 := hq 3 (by omega) (by omega) x3 rfl
      have b4 := hq 4 (by omega) (by omega) x4 rfl
      clear hq
      have h6 : x6 < 18446744073709551616 := hl x6 (by simp)
      repeat' (first | (with_reducible refine w_blind ?_) | ((with_reducible apply w_build) ; rfl; (try dsimp only [splice, ev, cellsL, rep, List.cons_append, List.nil_append])) | ((with_reducible refine w_bar ?_ ?_) ; omega) | ((with_reducible refine w_allocM H ?_) ; (clear H; intro u H hu)) | ((with_reducible refine w_to64 ?_ ?_) ; omega) | ((with_reducible apply w_storeV 0 H) ; rfl; rfl; rfl; omega; rfl; (clear H; intro u H hu; (try dsimp only [List.set_cons_zero, List.set_cons_succ, cellsL, List.toList_toArray, splice, ev, rep, List.cons_append, List.nil_append] at H))) | ((with_reducible apply w_loadsF 0 H) ; rfl; rfl; rfl) | ((with_reducible apply w_at1 1 H) ; rfl; rfl; rfl; rfl) | ((with_reducible apply w_at1 2 H) ; rfl; rfl; rfl; rfl))
      by_cases x : (⟨x1, x2, x3, x4⟩ : Geo).Ok
      · refine w_call ((cp ⟨x1, x2, x3, x4⟩ x6 _ h6).1 x) fun v' u' n' => ?_
        replace n' := n'.ones
        rw [← Wl_ones] at n'
        have nn := n'.1.1.1
        replace H := H.call n'
        refine w_bar nn ?_
        refine w_callB (ce _ [x0, x1, x2, x3, x4, x5, x6, x7] _ _ _ (by simp [headW]) (H.rd 0 rfl) (H.rd 3 rfl)) (fun q => ?_) (fun q => ?_)
        · refine w_bar (Nat.le_refl _) ?_
          repeat' (first | (with_reducible refine w_jn ?_) | (with_reducible refine w_cndF ?_) | (with_reducible refine w_notT ?_))
          rw [getHead_of x q.symm]
          replace H := H.sel [1, 2, 3] 4 rfl (by decide) (by decide); dsimp only [List.filterMap_cons, List.filterMap_nil, List.getElem?_cons_zero, List.getElem?_cons_succ] at H
          have H0 := H
          refine w_lwC0 [_, _] [_] rfl H rfl fun hS e1 e2 H1 => ?_
          clear H
          have H := H1
          clear H1
          dsimp only [List.map_cons, List.map_nil, List.cons_append, List.nil_append, Th.ro] at H
          repeat' (first | ((with_reducible apply w_loadsF 0 H) ; rfl; rfl; rfl))
          refine w_at1LM (c := h.nx) (hp := u'.hp) (L := Wl [x0, x1, x2, x3, x4, x5, x6, x7]) (l := [.int .u64 (.ofNat x6)]) rfl e1 ⟨(H0.rd 2 rfl).1, r.2⟩ rfl rfl ?_
          repeat' (first | ((with_reducible apply w_storeV 1 H) ; rfl; rfl; rfl; omega; rfl; (clear H; intro u H hu; (try dsimp only [List.set_cons_zero, List.set_cons_succ, cellsL, List.toList_toArray, splice, ev, rep, List.cons_append, List.nil_append] at H))))
          refine w_barC rfl H (by omega) ?_
          refine w_lwCE0 [_, _] [_, _] [_] [_] H0 H (by omega) rfl (fun t ht b hb => by rw [List.mem_singleton.1 ht] at hb; exact r.2 b hb) fun u9 H9 _ => ?_
          clear H H0
          have H := H9
          clear H9
          dsimp only [List.cons_append, List.nil_append] at H
          repeat' (first | ((with_reducible apply w_retC 1 H) ; rfl; rfl; rfl))
          exact w_clr H rfl ⟨rfl, rfl⟩
        · refine w_bar (Nat.le_refl _) ?_
          repeat' (first | (with_reducible refine w_jn ?_) | (with_reducible refine w_cndT ?_) | (with_reducible refine w_notF ?_) | ((with_reducible apply w_build) ; rfl; (try dsimp only [splice, ev, cellsL, rep, List.cons_append, List.nil_append])) | ((with_reducible apply w_storeV 2 H) ; rfl; rfl; rfl; omega; rfl; (clear H; intro u H hu; (try dsimp only [List.set_cons_zero, List.set_cons_succ, cellsL, List.toList_toArray, splice, ev, rep, List.cons_append, List.nil_append] at H))) | ((with_reducible apply w_retC 2 H) ; rfl; rfl; rfl))
          rw [getHead_none fun g ph x' e => q (by
            have e' := e
            unfold headW at e'
            simp only [List.cons.injEq, and_true] at e'
            obtain ⟨_, e1, e2, e3, e4, _, e6, _⟩ := e'
            subst e1 e2 e3 e4 e6
            exact e.symm)]
          exact w_clr H rfl ⟨rfl, rfl⟩
      · refine w_callE ((cp ⟨x1, x2, x3, x4⟩ x6 _ h6).2 x) ?_
        refine w_bar (Nat.le_refl _) ?_
        refine w_callB (ce [] [x0, x1, x2, x3, x4, x5, x6, x7] _ _ _ (by simp) (Rd.none _ _) (H.rd 2 rfl)) (fun q => by cases q) (fun q => ?_)
        refine w_bar (Nat.le_refl _) ?_
        repeat' (first | (with_reducible refine w_jn ?_) | (with_reducible refine w_cndT ?_) | (with_reducible refine w_notF ?_) | ((with_reducible apply w_build) ; rfl; (try dsimp only [splice, ev, cellsL, rep, List.cons_append, List.nil_append])) | ((with_reducible apply w_storeV 1 H) ; rfl; rfl; rfl; omega; rfl; (clear H; intro u H hu; (try dsimp only [List.set_cons_zero, List.set_cons_succ, cellsL, List.toList_toArray, splice, ev, rep, List.cons_append, List.nil_append] at H))) | ((with_reducible apply w_retC 1 H) ; rfl; rfl; rfl))
        rw [getHead_none fun g ph x' e => x (by
          unfold headW at e
          simp only [List.cons.injEq, and_true] at e
          obtain ⟨_, e1, e2, e3, e4, _, e6, _⟩ := e
          subst e1 e2 e3 e4 e6
          exact x')]
        exact w_clr H rfl ⟨rfl, rfl⟩
  · skip
    rw [getHead_none fun g ph x' e' => by have q : l.length = 8 := (by rw [e']; rfl); omega]
    exact w_clr H rfl ⟨rfl, rfl⟩
def CGetR (R : RnK) : Prop := ∀ (l : List Nat) (v : Value) (h : Hs), Small l → Rd h v 1 (Wl l) → R 63 [v] h = some (.val (hdR (getHead l)) h)
def fdV (p q : Option (Geo × Nat)) : Value := match p.or q with
  | some r => .tuple #[r.1.v, .int .u64 (.ofNat r.2), .bool p.isSome, .bool q.isSome]
  | none => .tuple #[(⟨0, 0, 0, 0⟩ : Geo).v, .int .u64 (.ofNat 0), .bool false, .bool false]
def CFindR (R : RnK) : Prop := ∀ (l : List Nat) (v : Value) (h : Hs), Small l → l.length < 100000 → Rd h v 1 (Wl l) → R 35 [v] h = some (.val (fdV (head1 l) (head2 l)) h)
theorem findR_ok {R : RnK} {N : Nat} (cw : CWhole R) (cg : CGetR R) {l : List Nat} {v : Value} {h : Hs} (hl : Small l) (hb : l.length < 100000) (r : Rd h v 1 (Wl l)) : r35 R N [v] h = some (.val (fdV (head1 l) (head2 l)) h) := by
  refine WP.eqn ?_
  unfold r35
  have H := Sto.enter1 r
  have e := Wl_len l
  repeat' (first | ((refine w_callB (cw l _ _ hb (H.rd 1 rfl)) (fun _ => ?_) (fun _ => ?_)) <;> first | (exfalso; omega) | skip) | (with_reducible refine w_jn ?_) | (with_reducible refine w_cndT ?_) | (with_reducible refine w_cndF ?_) | (with_reducible refine w_notT ?_) | (with_reducible refine w_notF ?_) | (with_reducible refine w_unC ?_) | (with_reducible refine w_enK ?_) | ((with_reducible apply w_build) ; rfl; (try dsimp only [splice, ev, cellsL, rep, List.cons_append, List.nil_append])) | ((with_reducible refine w_alloc H ?_) ; (clear H; intro u H hu)) | ((with_reducible apply w_storeV 0 H) ; rfl; rfl; rfl; omega; rfl; (clear H; intro u H hu; (try dsimp only [List.set_cons_zero, List.set_cons_succ, cellsL, List.toList_toArray, splice, ev, rep, List.cons_append, List.nil_append] at H))) | ((with_reducible apply w_retC 0 H) ; rfl; rfl; rfl))
  · have hs : sized l := ‹_›
    have hs1 := hs.2.1
    refine w_slH 1 H rfl (by omega) fun s H1 => ?_
    clear H; have H := H1; clear H1
    rw [Wl_take] at H
    refine w_callE (cg _ _ _ (hl.take 8) (H.rd 0 rfl)) ?_
    have q1 : head1 l = headOf (l.length / 8) (l.take 8) := if_pos hs
    have q2 : head2 l = headOf (l.length / 8) (l.drop (l.length - 8)) := if_pos hs
    rw [q1, q2]
    unfold headOf
    clear q1 q2
    rw [show l.length / 8 = (Wl l).length / 8 by rw [e]]
    have q3 : ∀ n : Nat, (Wl l).length - n = l.length - n := fun n => by rw [e]
    cases ea : getHead (l.take 8) with
    | none =>
      dsimp only [hdR, Geo.v]
      repeat' (first | ((with_reducible apply w_extr) ; rfl) | ((with_reducible refine w_alloc H ?_) ; (clear H; intro u H hu)) | ((with_reducible refine w_sub_NN ?_ ?_ ?_) ; omega; omega) | ((with_reducible apply w_storeV 0 H) ; rfl; rfl; rfl; omega; rfl; (clear H; intro u H hu; (try dsimp only [List.set_cons_zero, List.set_cons_succ, cellsL, List.toList_toArray, splice, ev, rep, List.cons_append, List.nil_append] at H))) | ((with_reducible apply w_lenR 3 H) ; rfl))
      refine w_slL 3 H rfl (by omega) fun s2 H2 => ?_
      clear H; have H := H2; clear H2
      rw [Wl_drop, q3] at H
      refine w_callE (cg _ _ _ (hl.drop _) (H.rd 0 rfl)) ?_
      cases eb : getHead (l.drop (l.length - 8)) with
      | none =>
        dsimp only [hdR, Geo.v]
        repeat' (first | (with_reducible refine w_jn ?_) | (with_reducible refine w_cndF ?_) | (with_reducible refine w_gTf ?_) | (with_reducible refine w_pickF ?_) | ((with_reducible apply w_extr) ; rfl) | ((with_reducible apply w_build) ; rfl; (try dsimp only [splice, ev, cellsL, rep, List.cons_append, List.nil_append])) | ((with_reducible refine w_alloc H ?_) ; (clear H; intro u H hu)) | ((with_reducible apply w_storeV 0 H) ; rfl; rfl; rfl; omega; rfl; (clear H; intro u H hu; (try dsimp only [List.set_cons_zero, List.set_cons_succ, cellsL, List.toList_toArray, splice, ev, rep, List.cons_append, List.nil_append] at H))) | ((with_reducible apply w_storeV 4 H) ; rfl; rfl; rfl; omega; rfl; (clear H; intro u H hu; (try dsimp only [List.set_cons_zero, List.set_cons_succ, cellsL, List.toList_toArray, splice, ev, rep, List.cons_append, List.nil_append] at H))) | ((with_reducible apply w_retC 4 H) ; rfl; rfl; rfl))
        exact w_clr H rfl ⟨rfl, rfl⟩
      | some p =>
        obtain ⟨g, ph⟩ := p
        dsimp only [hdR, Geo.v]
        repeat' (first | (with_reducible refine w_jn ?_) | (with_reducible refine w_cndT ?_) | (with_reducible refine w_cndF ?_) | (with_reducible refine w_gTt ?_) | (with_reducible refine w_gTf ?_) | (with_reducible refine w_pickT ?_) | (with_reducible refine w_pickF ?_) | (with_reducible refine w_fieldA ?_) | ((with_reducible apply w_extr) ; rfl) | ((with_reducible apply w_build) ; rfl; (try dsimp only [splice, ev, cellsL, rep, List.cons_append, List.nil_append])) | ((with_reducible refine w_alloc H ?_) ; (clear H; intro u H hu)) | ((with_reducible refine w_eql_NN (fun _ => ?_) (fun _ => ?_)) <;> first | (exfalso; omega) | skip) | ((with_reducible refine w_quo_NN ?_ ?_ ?_) ; omega; omega) | ((with_reducible apply w_load 0 H) ; rfl; rfl; rfl) | ((with_reducible apply w_storeV 0 H) ; rfl; rfl; rfl; omega; rfl; (clear H; intro u H hu; (try dsimp only [List.set_cons_zero, List.set_cons_succ, cellsL, List.toList_toArray, splice, ev, rep, List.cons_append, List.nil_append] at H))) | ((with_reducible apply w_loadsF 0 H) ; rfl; rfl; rfl) | ((with_reducible apply w_storeV 4 H) ; rfl; rfl; rfl; omega; rfl; (clear H; intro u H hu; (try dsimp only [List.set_cons_zero, List.set_cons_succ, cellsL, List.toList_toArray, splice, ev, rep, List.cons_append, List.nil_append] at H))) | ((with_reducible apply w_retC 4 H) ; rfl; rfl; rfl) | ((with_reducible apply w_lenR 5 H) ; rfl))
        all_goals exact w_clr H rfl ⟨by clear e; simp [Option.filter, *, packV, ev, fdV, Geo.v], rfl⟩
    | some p =>
      obtain ⟨g, ph⟩ := p
      dsimp only [hdR, Geo.v]
      repeat' (first | ((with_reducible apply w_extr) ; rfl) | ((with_reducible refine w_alloc H ?_) ; (clear H; intro u H hu)) | ((with_reducible refine w_sub_NN ?_ ?_ ?_) ; omega; omega) | ((with_reducible apply w_storeV 0 H) ; rfl; rfl; rfl; omega; rfl; (clear H; intro u H hu; (try dsimp only [List.set_cons_zero, List.set_cons_succ, cellsL, List.toList_toArray, splice, ev, rep, List.cons_append, List.nil_append] at H))) | ((with_reducible apply w_lenR 3 H) ; rfl))
      all_goals
        refine w_slL 3 H rfl (by omega) fun s2 H2 => ?_
        clear H; have H := H2; clear H2
        rw [Wl_drop, q3] at H
        refine w_callE (cg _ _ _ (hl.drop _) (H.rd 0 rfl)) ?_
        cases eb : getHead (l.drop (l.length - 8)) with
        | none =>
          dsimp only [hdR, Geo.v]
          repeat' (first | (with_reducible refine w_jn ?_) | (with_reducible refine w_cndT ?_) | (with_reducible refine w_cndF ?_) | (with_reducible refine w_gTt ?_) | (with_reducible refine w_gTf ?_) | (with_reducible refine w_pickT ?_) | (with_reducible refine w_pickF ?_) | (with_reducible refine w_fieldA ?_) | ((with_reducible apply w_extr) ; rfl) | ((with_reducible apply w_build) ; rfl; (try dsimp only [splice, ev, cellsL, rep, List.cons_append, List.nil_append])) | ((with_reducible refine w_alloc H ?_) ; (clear H; intro u H hu)) | ((with_reducible refine w_eql_NN (fun _ => ?_) (fun _ => ?_)) <;> first | (exfalso; omega) | skip) | ((with_reducible refine w_quo_NN ?_ ?_ ?_) ; omega; omega) | ((with_reducible apply w_storeV 0 H) ; rfl; rfl; rfl; omega; rfl; (clear H; intro u H hu; (try dsimp only [List.set_cons_zero, List.set_cons_succ, cellsL, List.toList_toArray, splice, ev, rep, List.cons_append, List.nil_append] at H))) | ((with_reducible apply w_load 2 H) ; rfl; rfl; rfl) | ((with_reducible apply w_loadsF 2 H) ; rfl; rfl; rfl) | ((with_reducible apply w_storeV 4 H) ; rfl; rfl; rfl; omega; rfl; (clear H; intro u H hu; (try dsimp only [List.set_cons_zero, List.set_cons_succ, cellsL, List.toList_toArray, splice, ev, rep, List.cons_append, List.nil_append] at H))) | ((with_reducible apply w_retC 4 H) ; rfl; rfl; rfl) | ((with_reducible apply w_lenR 5 H) ; rfl))
          all_goals exact w_clr H rfl ⟨by clear e; simp [Option.filter, *, packV, ev, fdV, Geo.v], rfl⟩
        | some p =>
          obtain ⟨g2, ph2⟩ := p
          dsimp only [hdR, Geo.v]
          repeat' (first | (with_reducible refine w_jn ?_) | (with_reducible refine w_cndT ?_) | (with_reducible refine w_cndF ?_) | (with_reducible refine w_gTt ?_) | (with_reducible refine w_pickT ?_) | (with_reducible refine w_fieldA ?_) | ((with_reducible apply w_extr) ; rfl) | ((with_reducible apply w_build) ; rfl; (try dsimp only [splice, ev, cellsL, rep, List.cons_append, List.nil_append])) | ((with_reducible refine w_alloc H ?_) ; (clear H; intro u H hu)) | ((with_reducible refine w_eql_NN (fun _ => ?_) (fun _ => ?_)) <;> first | (exfalso; omega) | skip) | ((with_reducible refine w_quo_NN ?_ ?_ ?_) ; omega; omega) | ((with_reducible apply w_load 0 H) ; rfl; rfl; rfl) | ((with_reducible apply w_storeV 0 H) ; rfl; rfl; rfl; omega; rfl; (clear H; intro u H hu; (try dsimp only [List.set_cons_zero, List.set_cons_succ, cellsL, List.toList_toArray, splice, ev, rep, List.cons_append, List.nil_append] at H))) | ((with_reducible apply w_loadsF 0 H) ; rfl; rfl; rfl) | ((with_reducible apply w_load 2 H) ; rfl; rfl; rfl) | ((with_reducible apply w_loadsF 2 H) ; rfl; rfl; rfl) | ((with_reducible apply w_storeV 4 H) ; rfl; rfl; rfl; omega; rfl; (clear H; intro u H hu; (try dsimp only [List.set_cons_zero, List.set_cons_succ, cellsL, List.toList_toArray, splice, ev, rep, List.cons_append, List.nil_append] at H))) | ((with_reducible apply w_retC 4 H) ; rfl; rfl; rfl) | ((with_reducible apply w_lenR 5 H) ; rfl))
          all_goals exact w_clr H rfl ⟨by clear e; simp [Option.filter, *, packV, ev, fdV, Geo.v], rfl⟩
  · rw [show head1 l = none from if_neg ‹_›, show head2 l = none from if_neg ‹_›]
    exact w_clr H rfl ⟨rfl, rfl⟩
def COpenR (R : RnK) : Prop := ∀ (l : List Nat) (v : Value) (h : Hs), Small l → l.length < 100000 → Rd h v 1 (Wl l) →
  (∀ g, opened l = some g → WP (R 13 [v] h) fun r h' => ∃ s, r = .tuple #[imgV g s, .bool true] ∧ New h h' (OW s l)) ∧
  (opened l = none → R 13 [v] h = some (.val (.tuple #[imgV ⟨0, 0, 0, 0⟩ (.slice none 0 0), .bool false]) h))
theorem openR_no {R : RnK} {N : Nat} (cf : CFindR R) {l : List Nat} {v : Value} {h : Hs} (hl : Small l) (hb : l.length < 100000) (r : Rd h v 1 (Wl l)) (ho : opened l = none) : r13 R N [v] h = some (.val (.tuple #[imgV ⟨0, 0, 0, 0⟩ (.slice none 0 0), .bool false]) h) := by
  refine WP.eqn ?_
  unfold r13
  have H := Sto.enter1 r
  obtain ⟨e1, e2⟩ := or_none ho
  have cfh : ∀ u, Rd u v 1 (Wl l) → R 35 [v] u = some (.val (.tuple #[(⟨0, 0, 0, 0⟩ : Geo).v, .int .u64 (.ofNat 0), .bool false, .bool false]) u) := fun u q => by
    rw [cf l v u hl hb q, e1, e2]; rfl
  unfold Geo.v at cfh
  repeat' (first | (refine w_callE (cfh _ (H.rd 1 rfl)) ?_) | (with_reducible refine w_jn ?_) | (with_reducible refine w_cndT ?_) | (with_reducible refine w_gTt ?_) | (with_reducible refine w_pickT ?_) | (with_reducible refine w_notF ?_) | (with_reducible refine w_unC ?_) | (with_reducible refine w_enK ?_) | ((with_reducible apply w_extr) ; rfl) | ((with_reducible apply w_build) ; rfl; (try dsimp only [splice, ev, cellsL, rep, List.cons_append, List.nil_append])) | ((with_reducible refine w_alloc H ?_) ; (clear H; intro u H hu)) | ((with_reducible apply w_storeV 0 H) ; rfl; rfl; rfl; omega; rfl; (clear H; intro u H hu; (try dsimp only [List.set_cons_zero, List.set_cons_succ, cellsL, List.toList_toArray, splice, ev, rep, List.cons_append, List.nil_append] at H))) | ((with_reducible apply w_storeV 1 H) ; rfl; rfl; rfl; omega; rfl; (clear H; intro u H hu; (try dsimp only [List.set_cons_zero, List.set_cons_succ, cellsL, List.toList_toArray, splice, ev, rep, List.cons_append, List.nil_append] at H))) | ((with_reducible apply w_retC 1 H) ; rfl; rfl; rfl))
  exact w_clr H rfl ⟨rfl, rfl⟩
theorem openR_ok {R : RnK} {N : Nat} (cf : CFindR R) {l : List Nat} {v : Value} {h : Hs} {g : Geo} (hl : Small l) (hb : l.length < 100000) (r : Rd h v 1 (Wl l)) (ho : opened l = some g) : WP (r13 R N [v] h) fun r h' => ∃ s, r = .tuple #[imgV g s, .bool true] ∧ New h h' (OW s l) := by
  unfold r13
  have H := Sto.enter1 r
  have cfh : ∃ (ph : Nat) (a b : Bool), (a || b) = true ∧ ∀ u, Rd u v 1 (Wl l) → R 35 [v] u = some (.val (.tuple #[g.v, .int .u64 (.ofNat ph), .bool a, .bool b]) u) := by
    unfold opened at ho
    cases e1 : head1 l with
    | some p =>
      rw [e1] at ho
      have : p.1 = g := by injection ho
      refine ⟨p.2, true, (head2 l).isSome, rfl, fun u q => ?_⟩
      rw [cf l v u hl hb q, e1, ← this]; rfl
    | none =>
      cases e2 : head2 l with
      | none => rw [e1, e2] at ho; cases ho
      | some p =>
        rw [e1, e2] at ho
        have : p.1 = g := by injection ho
        refine ⟨p.2, false, true, rfl, fun u q => ?_⟩
        rw [cf l v u hl hb q, e1, e2, ← this]; rfl
  obtain ⟨ph, a, b, hab, cfh⟩ := cfh
  unfold Geo.v at cfh
  cases a
  · have hb' : b = true := hab
    subst hb'
    repeat' (first | (refine w_callE (cfh _ (H.rd 1 rfl)) ?_) | (with_reducible refine w_jn ?_) | (with_reducible refine w_cndF ?_) | (with_reducible refine w_gTt ?_) | (with_reducible refine w_pickT ?_) | (with_reducible refine w_notT ?_) | (with_reducible refine w_notF ?_) | (with_reducible refine w_unC ?_) | (with_reducible refine w_enK ?_) | ((with_reducible apply w_extr) ; rfl) | ((with_reducible refine w_alloc H ?_) ; (clear H; intro u H hu)) | ((with_reducible apply w_storeV 0 H) ; rfl; rfl; rfl; omega; rfl; (clear H; intro u H hu; (try dsimp only [List.set_cons_zero, List.set_cons_succ, cellsL, List.toList_toArray, splice, ev, rep, List.cons_append, List.nil_append] at H))))
    show WP (lwF _ _ _) _
    have e := Wl_len l
    have H0 := H
    refine w_lwF 0 H rfl fun hS H1 _ => ?_
    clear H; have HS := H1; have H := H1; clear H1
    dsimp only [List.set_cons_zero] at H HS
    refine w_loadsLF 0 HS rfl rfl ?_
    repeat' (first | ((with_reducible refine w_bar ?_ ?_) ; omega) | ((with_reducible apply w_mkrow H) ; rfl; (clear H; intro u H hu; (try dsimp only [List.set_cons_zero, List.set_cons_succ, cellsL, List.toList_toArray, splice, ev, rep, List.cons_append, List.nil_append] at H))))
    replace H := H.osl 0 rfl (n := 0) (c := 0) rfl (Nat.le_refl _)
    dsimp only [List.set_cons_zero] at H
    refine w_append 0 3 H rfl rfl (by omega) (by rw [Wl_flat]; exact Wc_one l) (by omega) fun v' u2 H2 hn => ?_
    clear H
    rw [Wl_flat, e, Wc_flatL, Nat.zero_add] at H2
    have H := H2
    clear H2
    dsimp only [List.set_cons_zero, List.nil_append] at H
    obtain ⟨a1, c1, rfl⟩ := (show OwnSl u2 v' 24 1 _ l.length (Wc l) from H.ok _ (List.mem_of_getElem? (i := 0) rfl)).form
    repeat' (first | (with_reducible refine w_blind ?_) | ((with_reducible apply w_build) ; rfl; (try dsimp only [splice, ev, cellsL, rep, List.cons_append, List.nil_append])) | ((with_reducible refine w_bar ?_ ?_) ; omega) | ((with_reducible apply w_storeV 2 H) ; rfl; rfl; rfl; omega; rfl; (clear H; intro u H hu; (try dsimp only [List.set_cons_zero, List.set_cons_succ, cellsL, List.toList_toArray, splice, ev, rep, List.cons_append, List.nil_append] at H))))
    refine w_lwFE 0 1 H0 rfl H rfl fun u9 H9 _ => ?_
    clear H H0
    have H := H9
    clear H9
    dsimp only [List.set_cons_zero, List.set_cons_succ] at H
    repeat' (first | ((with_reducible apply w_retC 2 H) ; rfl; rfl; rfl))
    exact w_clrC (fun v => .tuple #[imgV g v, .bool true]) 0 H rfl (fun _ _ _ => by simp [blkV, blkP, blkC, imgV]) (fun _ _ _ _ => rfl) fun v' h' nn => ⟨_, rfl, nn⟩
  · repeat' (first | (refine w_callE (cfh _ (H.rd 1 rfl)) ?_) | (with_reducible refine w_jn ?_) | (with_reducible refine w_cndF ?_) | (with_reducible refine w_gTf ?_) | (with_reducible refine w_pickF ?_) | (with_reducible refine w_notT ?_) | (with_reducible refine w_unC ?_) | (with_reducible refine w_enK ?_) | ((with_reducible apply w_extr) ; rfl) | ((with_reducible refine w_alloc H ?_) ; (clear H; intro u H hu)) | ((with_reducible apply w_storeV 0 H) ; rfl; rfl; rfl; omega; rfl; (clear H; intro u H hu; (try dsimp only [List.set_cons_zero, List.set_cons_succ, cellsL, List.toList_toArray, splice, ev, rep, List.cons_append, List.nil_append] at H))))
    show WP (lwF _ _ _) _
    have e := Wl_len l
    have H0 := H
    refine w_lwF 0 H rfl fun hS H1 _ => ?_
    clear H; have HS := H1; have H := H1; clear H1
    dsimp only [List.set_cons_zero] at H HS
    refine w_loadsLF 0 HS rfl rfl ?_
    repeat' (first | ((with_reducible refine w_bar ?_ ?_) ; omega) | ((with_reducible apply w_mkrow H) ; rfl; (clear H; intro u H hu; (try dsimp only [List.set_cons_zero, List.set_cons_succ, cellsL, List.toList_toArray, splice, ev, rep, List.cons_append, List.nil_append] at H))))
    replace H := H.osl 0 rfl (n := 0) (c := 0) rfl (Nat.le_refl _)
    dsimp only [List.set_cons_zero] at H
    refine w_append 0 3 H rfl rfl (by omega) (by rw [Wl_flat]; exact Wc_one l) (by omega) fun v' u2 H2 hn => ?_
    clear H
    rw [Wl_flat, e, Wc_flatL, Nat.zero_add] at H2
    have H := H2
    clear H2
    dsimp only [List.set_cons_zero, List.nil_append] at H
    obtain ⟨a1, c1, rfl⟩ := (show OwnSl u2 v' 24 1 _ l.length (Wc l) from H.ok _ (List.mem_of_getElem? (i := 0) rfl)).form
    repeat' (first | (with_reducible refine w_blind ?_) | ((with_reducible apply w_build) ; rfl; (try dsimp only [splice, ev, cellsL, rep, List.cons_append, List.nil_append])) | ((with_reducible refine w_bar ?_ ?_) ; omega) | ((with_reducible apply w_storeV 2 H) ; rfl; rfl; rfl; omega; rfl; (clear H; intro u H hu; (try dsimp only [List.set_cons_zero, List.set_cons_succ, cellsL, List.toList_toArray, splice, ev, rep, List.cons_append, List.nil_append] at H))))
    refine w_lwFE 0 1 H0 rfl H rfl fun u9 H9 _ => ?_
    clear H H0
    have H := H9
    clear H9
    dsimp only [List.set_cons_zero, List.set_cons_succ] at H
    repeat' (first | ((with_reducible apply w_retC 2 H) ; rfl; rfl; rfl))
    exact w_clrC (fun v => .tuple #[imgV g v, .bool true]) 0 H rfl (fun _ _ _ => by simp [blkV, blkP, blkC, imgV]) (fun _ _ _ _ => rfl) fun v' h' nn => ⟨_, rfl, nn⟩
def blockAt (l : List Nat) (i : Nat) : List Nat := (l.drop (8 * i)).take 8
theorem blockAt_len {l : List Nat} {i : Nat} (h : 8 * i + 8 ≤ l.length) : (blockAt l i).length = 8 := by
  unfold blockAt; rw [List.length_take, List.length_drop]; omega
def CBlock (R : RnK) : Prop := ∀ (g : Geo) (l : List Nat) (s : Value) (i : Nat) (h : Hs), l.length < 100000 → Rd h s 1 (Wl l) → 8 * i + 8 ≤ l.length →
  WP (R 34 [imgV g s, .int .i64 (.ofNat i)] h) fun v h' => New h h' (OW v (blockAt l i))
theorem block_ok {R : RnK} {N : Nat} (cc : CCloneW R) {g : Geo} {l : List Nat} {s : Value} {i : Nat} {h : Hs} (hb : l.length < 100000) (r : Rd h s 1 (Wl l)) (hi : 8 * i + 8 ≤ l.length) :
    WP (r34 R N [imgV g s, .int .i64 (.ofNat i)] h) fun v h' => New h h' (OW v (blockAt l i)) := by
  unfold r34 imgV
  obtain ⟨a, c, rfl⟩ := r.1.form
  have H := Sto.enter1 r
  have e := Wl_len l
  repeat' (first | (with_reducible refine w_jn ?_) | (with_reducible refine w_cndF ?_) | (with_reducible refine w_gFf ?_) | (with_reducible refine w_pickF ?_) | (with_reducible refine w_unC ?_) | (with_reducible refine w_enK ?_) | (with_reducible refine w_fieldA ?_) | (with_reducible refine w_lenV ?_) | ((with_reducible refine w_boxA H ?_) ; (clear H; intro u H hu)) | ((with_reducible refine w_lss_NN (fun _ => ?_) (fun _ => ?_)) <;> first | (exfalso; omega) | skip) | ((with_reducible refine w_geq_NN (fun _ => ?_) (fun _ => ?_)) <;> first | (exfalso; omega) | skip) | ((with_reducible refine w_add_NN ?_ ?_) ; omega) | ((with_reducible refine w_mul_NN ?_ ?_) ; omega) | ((with_reducible refine w_quo_NN ?_ ?_ ?_) ; omega; omega) | ((with_reducible apply w_load 0 H) ; rfl; rfl; rfl))
  refine w_slLH 1 H rfl (by omega) (by omega) fun s2 H2 => ?_
  clear H
  rw [Wl_drop, Wl_take, show 8 * (i + 1) - 8 * i = 8 by omega] at H2
  refine w_call (cc _ _ _ (by rw [show (l.drop (8 * i)).take 8 = blockAt l i from rfl, blockAt_len hi]; omega) (H2.rd 0 rfl)) fun v' u2 n => ?_
  have H := H2.call n
  exact w_clrO 0 H rfl fun v' h' n => n
def CImgBits (R : RnK) : Prop := ∀ (g : Geo) (l : List Nat) (s : Value) (h : Hs), g.Ok → l.length = 8 * g.b → Rd h s 1 (Wl l) →
  WP (R 12 [imgV g s] h) fun v h' => ∃ s', v = .agg #[s'] ∧ New h h' (OW s' ((l.drop (8 * g.bitsAt)).take (8 * g.bitsN)))
theorem imgBits_ok {R : RnK} {N : Nat} (cb : CBitsF R) (ck : CBlock R) {g : Geo} {l : List Nat} {s : Value} {h : Hs} (hN : 100 < N) (x : g.Ok) (hl : l.length = 8 * g.b) (r : Rd h s 1 (Wl l)) :
    WP (r12 R N [imgV g s] h) fun v h' => ∃ s', v = .agg #[s'] ∧ New h h' (OW s' ((l.drop (8 * g.bitsAt)).take (8 * g.bitsN))) := by
  have cbg := cb g
  unfold Geo.v at cbg
  have ckg := ck g l s
  unfold r12 imgV
  unfold imgV at ckg
  obtain ⟨a, c, rfl⟩ := r.1.form
  have H := Sto.enter1 r
  have e := Wl_len l
  have h1 := x.1.num
  have h2 := x.1.b2
  have h3 := x.2
  repeat' (first | (refine w_callE (cbg _ x) ?_) | (with_reducible refine w_jn ?_) | (with_reducible refine w_unC ?_) | (with_reducible refine w_enK ?_) | (with_reducible refine w_fieldA ?_) | ((with_reducible apply w_extr) ; rfl) | ((with_reducible refine w_boxA H ?_) ; (clear H; intro u H hu)) | ((with_reducible refine w_alloc H ?_) ; (clear H; intro u H hu)) | ((with_reducible apply w_loads 1 H) ; rfl; rfl; rfl; rfl; (try dsimp only [List.drop_zero, List.drop_succ_cons, List.take_succ_cons, List.take_zero])))
  rename_i ua hua ub hub
  replace H := H.nilS 24 1
  have P1 : ∀ i, (l.drop (8 * g.bitsAt)).take (8 * (i + 1)) = (l.drop (8 * g.bitsAt)).take (8 * i) ++ blockAt l (g.bitsAt + i) := fun i => by
    rw [show 8 * (i + 1) = 8 * i + 8 by omega, List.take_add, List.drop_drop]
    unfold blockAt
    rw [show 8 * (g.bitsAt + i) = 8 * g.bitsAt + 8 * i by omega]
  obtain ⟨m0, hm0, H0⟩ : ∃ m0, m0 = _ ∧ Sto h [] u m0 := ⟨_, rfl, H⟩
  clear H
  refine lp_ind (Good := fun n (self : L3) => ∀ (i : Nat) (y1 y2 cur : Value) (fl : Bool) (w : Hs), i + n = g.bitsN → Sto h [] w ((m0.set 0 (.osl cur 24 1 true (8 * i) (Wc ((l.drop (8 * g.bitsAt)).take (8 * i))))).set 1 (.blk ub.nx (.row 40 0 true fl [cur]))) → WP (self (.int .i64 (.ofNat i)) y1 y2 w) (fun v h' => ∃ s', v = .agg #[s'] ∧ New h h' (OW s' ((l.drop (8 * g.bitsAt)).take (8 * g.bitsN))))) (fun n self ih i y1 y2 cur fl w hi H1 => ?_) N g.bitsN (by omega) 0 _ _ (.slice none 0 0) true _ (by omega) (by rw [hm0]; rw [hm0] at H0; exact H0)
  have hm1 := hm0
  rw [hm0] at H1
  have H := H1
  clear H1
  dsimp only [List.set_cons_zero, List.set_cons_succ] at H
  obtain ⟨ac, cc, rfl⟩ := (show OwnSl w cur 24 1 _ _ _ from H.ok _ (List.mem_of_getElem? (i := 0) rfl)).form
  repeat' (first | (with_reducible refine w_jn ?_) | (with_reducible refine w_cndT ?_) | (with_reducible refine w_cndF ?_) | (with_reducible refine w_fieldA ?_) | (with_reducible refine w_st1A ?_) | ((with_reducible refine w_lss_NN (fun _ => ?_) (fun _ => ?_)) <;> first | (exfalso; omega) | skip) | ((with_reducible refine w_add_NN ?_ ?_) ; omega) | ((with_reducible apply w_load 1 H) ; rfl; rfl; rfl) | ((with_reducible apply w_loadsF 1 H) ; rfl; rfl; rfl) | ((with_reducible apply w_storeV 2 H) ; rfl; rfl; rfl; omega; rfl; (clear H; intro u H hu; (try dsimp only [List.set_cons_zero, List.set_cons_succ, cellsL, List.toList_toArray, splice, ev, rep, List.cons_append, List.nil_append] at H))) | ((with_reducible apply w_retC 2 H) ; rfl; rfl; rfl) | ((with_reducible apply w_loadsF 3 H) ; rfl; rfl; rfl))
  · refine w_call (ckg (g.bitsAt + i) _ (by omega) (Rd.lo (H.rd 4 rfl) _) (by omega)) fun v' u2 n2 => ?_
    refine w_light n2 fun u3 n2 => ?_
    have bl := blockAt_len (l := l) (i := g.bitsAt + i) (by omega)
    obtain ⟨a2, c2, rfl⟩ := n2.2.1.form
    replace H := H.call n2
    refine w_appendO 1 0 H rfl rfl (Wc_one _) (by rw [bl]; omega) fun v3 u4 H4 hn4 => ?_
    clear H
    rw [Wc_flatL, bl, show 8 * i + 8 = 8 * (i + 1) by omega] at H4
    have w1 : Wc ((l.drop (8 * g.bitsAt)).take (8 * i)) ++ Wc (blockAt l (g.bitsAt + i)) = Wc ((l.drop (8 * g.bitsAt)).take (8 * (i + 1))) := by rw [P1]; unfold Wc; rw [List.map_append]
    rw [w1] at H4
    have H := H4
    clear H4
    dsimp only [List.set_cons_zero, List.set_cons_succ] at H
    obtain ⟨a3, c3, rfl⟩ := (show OwnSl u4 v3 24 1 _ _ _ from H.ok _ (List.mem_of_getElem? (i := 1) rfl)).form
    repeat' (first | (with_reducible refine w_fieldA ?_) | ((with_reducible refine w_bar ?_ ?_) ; omega) | ((with_reducible refine w_add_NN ?_ ?_) ; omega) | ((with_reducible apply w_store1 2 H) ; rfl; (simp only [List.length_cons, List.length_nil]; omega); rfl; (clear H; intro u H hu; (try dsimp only [List.set_cons_zero, List.set_cons_succ, cellsL, List.toList_toArray, splice, ev, rep, List.cons_append, List.nil_append] at H))))
    refine ih (n - 1) (by omega) (i + 1) _ _ (.slice a3 (8 * (i + 1)) c3) (andB fl (flat1 (.slice a3 (8 * (i + 1)) c3))) _ (by omega) ?_
    rw [hm1]
    replace H := H.sel [1, 2, 3, 4, 5] 6 rfl (by decide) (by decide); dsimp only [List.filterMap_cons, List.filterMap_nil, List.getElem?_cons_zero, List.getElem?_cons_succ] at H
    exact H
  · have ei : i = g.bitsN := by omega
    subst ei
    have pl : ((l.drop (8 * g.bitsAt)).take (8 * g.bitsN)).length = 8 * g.bitsN := by rw [List.length_take, List.length_drop]; omega
    exact w_clrC (fun v => .agg #[v]) 0 H rfl (fun _ _ _ => by simp [blkV, blkP, blkC]) (fun _ _ _ _ => rfl) fun v' h' nn => ⟨_, rfl, by unfold OW; rw [pl]; exact nn⟩
/-! ### the bits of an empty image -/
def bitOf (l : List Nat) (i : Nat) : Bool := (l.getD (i / 64) 0).testBit (i % 64)
theorem putBit_bit {w k j : Nat} (hj : j < 64) (hk : k < 64) : (putBit w k true).testBit j = (w.testBit j || decide (j = k)) := by
  have h1 : 2 ^ k < 2 ^ 64 := Nat.pow_lt_pow_right (by omega) hk
  have h2 : (18446744073709551615 - 2 ^ k).testBit j = (decide (j < 64) && !(2 ^ k).testBit j) := by
    have := Nat.testBit_two_pow_sub_succ h1 j
    rw [← this]; congr 1; omega
  unfold putBit clrBit
  rw [if_pos rfl, Nat.testBit_or, Nat.testBit_and, h2, Nat.testBit_two_pow]
  by_cases e : j = k
  · subst e; simp
  · have e' : ¬ k = j := fun q => e q.symm
    simp [e, e', hj]
theorem setBit_bit {l : List Nat} {i k : Nat} (hi : i / 64 < l.length) : bitOf (setBit l true i) k = (bitOf l k || decide (k = i)) := by
  have e1 : ((i : Int)).toNat = i := rfl
  unfold setBit bitOf
  rw [if_pos ⟨by omega, by rw [e1]; exact hi⟩, e1]
  simp only [List.getD_eq_getElem?_getD, List.getElem?_set]
  by_cases e : i / 64 = k / 64
  · rw [if_pos e, if_pos hi]
    rw [Option.getD_some, putBit_bit (Nat.mod_lt _ (by omega)) (Nat.mod_lt _ (by omega)), e]
    congr 1
    rw [decide_eq_decide]; omega
  · rw [if_neg e]
    have : ¬ k = i := fun q => e (by rw [q])
    simp [this]
theorem bitsInit_succ (g : Geo) (m : Nat) : bitsInit g (m + 1) = bitStep g (bitsInit g m) m := by
  unfold bitsInit
  rw [List.range_succ, List.foldl_append]; rfl
theorem bitsInit_bit {g : Geo} {k : Nat} : ∀ {m : Nat}, m ≤ g.b → bitOf (bitsInit g m) k = decide (k < m ∧ (k < g.dataAt ∨ g.dataAt + g.dataN ≤ k)) := by
  intro m
  induction m with
  | zero =>
    intro _
    have : bitsInit g 0 = List.replicate ((g.b + 63) / 64) 0 := rfl
    rw [this]
    unfold bitOf
    rw [List.getD_eq_getElem?_getD, List.getElem?_replicate]
    split <;> simp
  | succ m ih =>
    intro hm
    have hl : (bitsInit g m).length = (g.b + 63) / 64 := bitsInit_len
    rw [bitsInit_succ]
    unfold bitStep
    split
    · rw [setBit_bit (by rw [hl]; omega), ih (by omega)]
      rw [← Bool.decide_or, decide_eq_decide]; omega
    · rw [ih (by omega), decide_eq_decide]; omega
theorem putW_get {W ws : List Nat} {o j : Nat} (ho : o ≤ W.length) (hj : j < ws.length) : (putW W o ws)[o + j]? = ws[j]? := by
  unfold putW
  have l1 : (W.take o).length = o := by rw [List.length_take]; omega
  rw [List.append_assoc, List.getElem?_append_right (by omega), l1, Nat.add_sub_cancel_left, List.getElem?_append_left hj]
theorem makeW_bits {g : Geo} (x : g.Ok) {j : Nat} (hj : j < (g.b + 63) / 64) : (((makeW g).drop (8 * g.bitsAt)).take (8 * g.bitsN))[j]? = (bitsInit g g.b)[j]? := by
  have h1 := x.1.b1; have h2 := x.1.b2; have h3 := x.1.n1; have h4 := x.1.n2
  have h5 := x.1.num
  have h6 := x.2
  have h7 : g.bitsN = (g.b + 511) / 512 := rfl
  have n1 : g.nodeAt 1 = g.bitsAt + g.bitsN := by unfold Geo.nodeAt; rw [if_pos (by omega)]; omega
  have n2 : g.nodeAt 2 = g.bitsAt + g.bitsN + 1 := by unfold Geo.nodeAt; rw [if_pos (by omega)]; omega
  have z1 : (nodeW rootN).length = 8 := nodeW_len1
  have z2 : (nodeW (lostN g)).length = 8 := nodeW_len2
  have z3 : (headW g 0).length = 8 := rfl
  have l0 : (List.replicate (8 * g.b) 0).length = 8 * g.b := List.length_replicate
  have l1 : (putW (List.replicate (8 * g.b) 0) 0 (headW g 0)).length = 8 * g.b := by rw [putW_len (by rw [l0]; omega), l0]
  have l2 : (putW (putW (List.replicate (8 * g.b) 0) 0 (headW g 0)) (8 * (g.b - 1)) (headW g 0)).length = 8 * g.b := by rw [putW_len (by rw [l1]; omega), l1]
  have l3 : (putW (putW (putW (List.replicate (8 * g.b) 0) 0 (headW g 0)) (8 * (g.b - 1)) (headW g 0)) (8 * g.nodeAt 1) (nodeW rootN)).length = 8 * g.b := by rw [putW_len (by rw [l2]; omega), l2]
  have l4 : (putW (putW (putW (putW (List.replicate (8 * g.b) 0) 0 (headW g 0)) (8 * (g.b - 1)) (headW g 0)) (8 * g.nodeAt 1) (nodeW rootN)) (8 * g.nodeAt 2) (nodeW (lostN g))).length = 8 * g.b := by rw [putW_len (by rw [l3]; omega), l3]
  rw [List.getElem?_take, if_pos (by omega), List.getElem?_drop]
  unfold makeW
  exact putW_get (by rw [l4]; omega) (by rw [bitsInit_len]; exact hj)
theorem bit_word {w k : Nat} : (w / 2 ^ k &&& 1 = 1) ↔ w.testBit k = true := by
  rw [Nat.and_one_is_mod, Nat.testBit_eq_decide_div_mod_eq, decide_eq_true_iff]
theorem bitsLaw_ok {R : RnK} {N : Nat} (cg : CGood R) (cgn : CGoodNeg R) (cm : CMake R) (cmn : CMakeNo R) (co : COpen R) (cdf : CDataF R) (cib : CImgBits R) (cor : COpenR R) {b n c k at_ : Int}
    (aw : ∀ cs, R 6 [] (Gev.newRow ⟨.e, 0, 0⟩ 23 0 cs) = some (.val (.bool true) (Gev.newRow ⟨.e, 0, 0⟩ 23 0 cs))) :
    r4 R N [gI b n c k, .int .i64 at_] ⟨.e, 0, 0⟩ = some (.val (.bool true) ⟨.e, 0, 0⟩) := by
  refine WP.eqn ?_
  unfold r4 gI
  refine w_unC ?_
  refine w_unC ?_
  refine w_enK ?_
  have H := (Sto.enter ⟨.e, 0, 0⟩).row 23 0 [.int .i64 b, .int .i64 n, .int .i64 c, .int .i64 k]
  refine w_rs (v := .pointer (some ⟨0, 0, none⟩)) (h := Gev.newRow ⟨.e, 0, 0⟩ 23 0 [.int .i64 b, .int .i64 n, .int .i64 c, .int .i64 k]) rfl ?_
  refine w_callE (aw _) ?_
  have H : Sto ⟨.e, 0, 0⟩ [] (Gev.newRow ⟨.e, 0, 0⟩ 23 0 [.int .i64 b, .int .i64 n, .int .i64 c, .int .i64 k]) [.blk 0 (.row 23 0 true true [.int .i64 b, .int .i64 n, .int .i64 c, .int .i64 k])] := H
  generalize Gev.newRow ⟨.e, 0, 0⟩ 23 0 [.int .i64 b, .int .i64 n, .int .i64 c, .int .i64 k] = u0 at H ⊢
  have no := cmn b n c k
  unfold gI at no
  rcases bad_or b n c k with q | ⟨g, q1, q2, x⟩
  · have gd := bad_good cg cgn q
    unfold gI at gd
    repeat' (first | (refine w_callE (no _ q) ?_) | (refine w_callE (gd _) ?_) | (with_reducible refine w_jn ?_) | (with_reducible refine w_cndT ?_) | (with_reducible refine w_cndF ?_) | (with_reducible refine w_notT ?_) | (with_reducible refine w_notF ?_) | ((with_reducible apply w_extr) ; rfl) | ((with_reducible refine w_neq_NN (fun _ => ?_) (fun _ => ?_)) <;> first | (exfalso; omega) | skip) | ((with_reducible apply w_loadsF 0 H) ; rfl; rfl; rfl))
    exact w_clr H rfl ⟨rfl, rfl⟩
  · have m := cm g
    have df := cdf g
    rw [← q1] at m df
    unfold gI at m df
    repeat' (first | (with_reducible refine w_jn ?_) | (with_reducible refine w_cndF ?_) | (with_reducible refine w_notT ?_) | ((with_reducible apply w_loadsF 0 H) ; rfl; rfl; rfl))
    refine w_call (m _ x) fun r u1 hm => ?_
    obtain ⟨s, rfl, n1⟩ := hm
    replace H := H.call n1
    obtain ⟨f1, f2, f3⟩ := makeW_facts x
    have h1 := x.1.b1; have h2 := x.1.b2
    obtain ⟨sa, sc, rfl⟩ := n1.2.1.form
    clear n1 m no
    repeat' (first | (with_reducible refine w_jn ?_) | (with_reducible refine w_cndF ?_) | ((with_reducible apply w_extr) ; rfl) | ((with_reducible refine w_neq_NN (fun _ => ?_) (fun _ => ?_)) <;> first | (exfalso; omega) | skip))
    have rd := H.rdO 0 rfl
    rw [← Wl_ones] at rd
    refine w_call ((co (makeW g) _ _ f2 (by omega) rd).1 g (opened_make x)) fun r2 u3 n2 => ?_
    obtain ⟨s2, rfl, n2⟩ := n2
    unfold OW at n2
    rw [f1] at n2
    obtain ⟨a2, c2, rfl⟩ := n2.2.1.form
    replace H := H.call n2
    unfold imgV
    clear n2 rd
    by_cases ha : 0 ≤ at_ ∧ at_ < g.b
    · obtain ⟨j, rfl⟩ := Int.eq_ofNat_of_zero_le ha.1
      rw [show (Value.int .i64 (j : Int)) = .int .i64 (.ofNat j) from rfl]
      have hj : j < g.b := by omega
      subst q2
      repeat' (first | (refine w_callE (df _ x) ?_) | (with_reducible refine w_jn ?_) | (with_reducible refine w_cndF ?_) | (with_reducible refine w_gFf ?_) | (with_reducible refine w_pickF ?_) | (with_reducible refine w_fieldA ?_) | ((with_reducible apply w_extr) ; rfl) | ((with_reducible refine w_alloc H ?_) ; (clear H; intro u H hu)) | ((with_reducible refine w_lss_NN (fun _ => ?_) (fun _ => ?_)) <;> first | (exfalso; omega) | skip) | ((with_reducible refine w_geq_NI (fun _ => ?_) (fun _ => ?_)) <;> first | (exfalso; omega) | skip) | ((with_reducible refine w_neq_NN (fun _ => ?_) (fun _ => ?_)) <;> first | (exfalso; omega) | skip) | ((with_reducible apply w_storeV 0 H) ; rfl; rfl; rfl; omega; rfl; (clear H; intro u H hu; (try dsimp only [List.set_cons_zero, List.set_cons_succ, cellsL, List.toList_toArray, splice, ev, rep, List.cons_append, List.nil_append] at H))) | ((with_reducible apply w_loadsF 0 H) ; rfl; rfl; rfl) | ((with_reducible apply w_load 3 H) ; rfl; rfl; rfl) | ((with_reducible apply w_loadsF 3 H) ; rfl; rfl; rfl))
      have h5 := x.1.num
      have h6 := x.2
      have h7 : g.bitsN = (g.b + 511) / 512 := rfl
      have h8 : g.dataN = g.b - 1 - g.dataAt := rfl
      have h9 := x.1.n2
      have pl : (((makeW g).drop (8 * g.bitsAt)).take (8 * g.bitsN)).length = 8 * g.bitsN := by rw [List.length_take, List.length_drop]; omega
      have rd := H.rdO 1 rfl
      rw [← Wl_ones] at rd
      refine w_call (cib g (makeW g) _ _ x f1 rd) fun r3 u4 n3 => ?_
      obtain ⟨s3, rfl, n3⟩ := n3
      unfold OW at n3
      rw [pl] at n3
      obtain ⟨a3, c3, rfl⟩ := n3.2.1.form
      replace H := H.call n3
      clear n3 rd
      obtain ⟨wv, hw⟩ : ∃ wv, (((makeW g).drop (8 * g.bitsAt)).take (8 * g.bitsN))[j / 64]? = some wv := ⟨_, List.getElem?_eq_getElem (by rw [pl]; omega)⟩
      have hbit : (wv / 2 ^ (j % 64) &&& 1 = 1) ↔ (j < g.dataAt ∨ g.dataAt + g.dataN ≤ j) := by
        have e := makeW_bits x (j := j / 64) (by omega)
        rw [hw] at e
        have e2 := bitsInit_bit (g := g) (k := j) (Nat.le_refl _)
        unfold bitOf at e2
        rw [List.getD_eq_getElem?_getD, ← e, Option.getD_some] at e2
        rw [bit_word, e2, decide_eq_true_iff]
        omega
      have wlt : wv < 18446744073709551616 := (f2.drop _).take _ _ (List.mem_of_getElem? hw)
      have wle : wv / 2 ^ (j % 64) ≤ wv := Nat.div_le_self _ _
      have hw2 : (Wc (((makeW g).drop (8 * g.bitsAt)).take (8 * g.bitsN)))[j / 64]? = some (.int .u64 (.ofNat wv)) := by unfold Wc; rw [List.getElem?_map, hw]; rfl
      repeat' (first | (with_reducible refine w_jn ?_) | (with_reducible refine w_cndF ?_) | (with_reducible refine w_fieldA ?_) | (with_reducible refine w_lenV ?_) | (with_reducible refine w_st1A ?_) | ((with_reducible refine w_alloc H ?_) ; (clear H; intro u H hu)) | ((with_reducible refine w_geq_NN (fun _ => ?_) (fun _ => ?_)) <;> first | (exfalso; omega) | skip) | ((with_reducible refine w_quo_NN ?_ ?_ ?_) ; omega; omega) | ((with_reducible apply w_load 0 H) ; rfl; rfl; rfl) | ((with_reducible apply w_storeV 0 H) ; rfl; rfl; rfl; omega; rfl; (clear H; intro u H hu; (try dsimp only [List.set_cons_zero, List.set_cons_succ, cellsL, List.toList_toArray, splice, ev, rep, List.cons_append, List.nil_append] at H))))
      refine w_atO 1 H rfl hw2 rfl ?_
      by_cases hd : j < g.dataAt ∨ g.dataAt + g.dataN ≤ j
      · have ht := hbit.2 hd
        repeat' (first | ((with_reducible refine w_ueql (fun _ => ?_) (fun _ => ?_)) <;> first | (exfalso; omega) | skip) | ((with_reducible refine w_rem_NN ?_ ?_) ; omega) | ((with_reducible refine w_toU ?_ ?_) ; omega) | ((with_reducible refine w_shr ?_ ?_) ; omega) | ((with_reducible refine w_uand ?_ ?_ ?_) ; omega; omega))
        · have e0 := ht
          have rd3 := H.rdO 4 rfl
          rw [← Wl_ones] at rd3
          refine w_call ((cor (makeW g) _ _ f2 (by omega) rd3).1 g (opened_make x)) fun r4 u5 n4 => ?_
          obtain ⟨s4, rfl, n4⟩ := n4
          unfold OW at n4
          rw [f1] at n4
          obtain ⟨a4, c4, rfl⟩ := n4.2.1.form
          replace H := H.call n4
          unfold imgV
          clear n4 rd3
          repeat' (first | (with_reducible refine w_gTt ?_) | (with_reducible refine w_gFt ?_) | (with_reducible refine w_gFf ?_) | (with_reducible refine w_pickT ?_) | (with_reducible refine w_pickF ?_) | (with_reducible refine w_fieldA ?_) | (with_reducible refine w_lenV ?_) | ((with_reducible apply w_extr) ; rfl) | ((with_reducible refine w_alloc H ?_) ; (clear H; intro u H hu)) | ((with_reducible refine w_lss_NN (fun _ => ?_) (fun _ => ?_)) <;> first | (exfalso; omega) | skip) | ((with_reducible refine w_geq_NN (fun _ => ?_) (fun _ => ?_)) <;> first | (exfalso; omega) | skip) | ((with_reducible refine w_geq_NI (fun _ => ?_) (fun _ => ?_)) <;> first | (exfalso; omega) | skip) | ((with_reducible refine w_add_NN ?_ ?_) ; omega) | ((with_reducible refine w_mul_NN ?_ ?_) ; omega) | ((with_reducible apply w_storeV 0 H) ; rfl; rfl; rfl; omega; rfl; (clear H; intro u H hu; (try dsimp only [List.set_cons_zero, List.set_cons_succ, cellsL, List.toList_toArray, splice, ev, rep, List.cons_append, List.nil_append] at H))) | ((with_reducible apply w_load 2 H) ; rfl; rfl; rfl) | ((with_reducible apply w_load 7 H) ; rfl; rfl; rfl))
          all_goals (refine w_ob rfl ?_)
          repeat' (first | (with_reducible refine w_pickT ?_))
          all_goals exact w_clr H rfl ⟨rfl, rfl⟩
        all_goals exact absurd ht ‹_›
      · have ht : ¬ (wv / 2 ^ (j % 64) &&& 1 = 1) := fun q => hd (hbit.1 q)
        repeat' (first | ((with_reducible refine w_ueql (fun _ => ?_) (fun _ => ?_)) <;> first | (exfalso; omega) | skip) | ((with_reducible refine w_rem_NN ?_ ?_) ; omega) | ((with_reducible refine w_toU ?_ ?_) ; omega) | ((with_reducible refine w_shr ?_ ?_) ; omega) | ((with_reducible refine w_uand ?_ ?_ ?_) ; omega; omega))
        all_goals first | (exact absurd ‹wv / 2 ^ (j % 64) &&& 1 = 1› ht) | skip
        have rd3 := H.rdO 4 rfl
        rw [← Wl_ones] at rd3
        refine w_call ((cor (makeW g) _ _ f2 (by omega) rd3).1 g (opened_make x)) fun r4 u5 n4 => ?_
        obtain ⟨s4, rfl, n4⟩ := n4
        unfold OW at n4
        rw [f1] at n4
        obtain ⟨a4, c4, rfl⟩ := n4.2.1.form
        replace H := H.call n4
        unfold imgV
        clear n4 rd3
        repeat' (first | (with_reducible refine w_gTt ?_) | (with_reducible refine w_gFf ?_) | (with_reducible refine w_pickT ?_) | (with_reducible refine w_pickF ?_) | (with_reducible refine w_fieldA ?_) | (with_reducible refine w_lenV ?_) | ((with_reducible apply w_extr) ; rfl) | ((with_reducible refine w_alloc H ?_) ; (clear H; intro u H hu)) | ((with_reducible refine w_lss_NN (fun _ => ?_) (fun _ => ?_)) <;> first | (exfalso; omega) | skip) | ((with_reducible refine w_geq_NN (fun _ => ?_) (fun _ => ?_)) <;> first | (exfalso; omega) | skip) | ((with_reducible refine w_geq_NI (fun _ => ?_) (fun _ => ?_)) <;> first | (exfalso; omega) | skip) | ((with_reducible refine w_add_NN ?_ ?_) ; omega) | ((with_reducible refine w_mul_NN ?_ ?_) ; omega) | ((with_reducible apply w_storeV 0 H) ; rfl; rfl; rfl; omega; rfl; (clear H; intro u H hu; (try dsimp only [List.set_cons_zero, List.set_cons_succ, cellsL, List.toList_toArray, splice, ev, rep, List.cons_append, List.nil_append] at H))) | ((with_reducible apply w_load 2 H) ; rfl; rfl; rfl) | ((with_reducible apply w_load 7 H) ; rfl; rfl; rfl))
        all_goals (refine w_ob rfl ?_)
        repeat' (first | (with_reducible refine w_pickT ?_))
        all_goals exact w_clr H rfl ⟨rfl, rfl⟩
    · repeat' (first | (refine w_callE (df _ x) ?_) | (with_reducible refine w_jn ?_) | (with_reducible refine w_cndT ?_) | (with_reducible refine w_gFt ?_) | (with_reducible refine w_gFf ?_) | (with_reducible refine w_pickT ?_) | (with_reducible refine w_pickF ?_) | (with_reducible refine w_fieldA ?_) | ((with_reducible apply w_extr) ; rfl) | ((with_reducible refine w_alloc H ?_) ; (clear H; intro u H hu)) | ((with_reducible refine w_lss_IN (fun _ => ?_) (fun _ => ?_)) <;> first | (exfalso; omega) | skip) | ((with_reducible refine w_geq_II (fun _ => ?_) (fun _ => ?_)) <;> first | (exfalso; omega) | skip) | ((with_reducible refine w_eql_NN (fun _ => ?_) (fun _ => ?_)) <;> first | (exfalso; omega) | skip) | ((with_reducible refine w_neq_NN (fun _ => ?_) (fun _ => ?_)) <;> first | (exfalso; omega) | skip) | ((with_reducible apply w_storeV 0 H) ; rfl; rfl; rfl; omega; rfl; (clear H; intro u H hu; (try dsimp only [List.set_cons_zero, List.set_cons_succ, cellsL, List.toList_toArray, splice, ev, rep, List.cons_append, List.nil_append] at H))) | ((with_reducible apply w_load 3 H) ; rfl; rfl; rfl) | ((with_reducible apply w_loadsF 3 H) ; rfl; rfl; rfl))
      all_goals exact w_clr H rfl ⟨rfl, rfl⟩
end Go.Proofs.YtkmdcgfgfinmjaaGreatDoor.imageBits

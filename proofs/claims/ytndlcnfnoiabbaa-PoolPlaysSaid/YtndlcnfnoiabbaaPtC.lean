/- Contracts of functions, by the logic of residual programs. -/
import Derived.Test.YtndlcnfnoiabbaaPtB
namespace Go.Proofs.Ytndlcnfnoiabbaa.poolPlays
open Go Go.Gev
set_option linter.unusedVariables false
set_option linter.unusedSimpArgs false
def enoughL : List (Nat × Nat) → Nat → List (Nat × Nat)
 | [], _ => []
 | r :: l, n => if n = 0 then [] else (r.1, min r.2 n) :: enoughL l (n - min r.2 n)
def CEnough (R : RnK) : Prop := ∀ (l : List (Nat × Nat)) (n : Nat) (v : Value) (h : Hs), l.length ≤ 100 → n ≤ 9223372036854775807 → (∀ r ∈ l, r.2 ≤ 100000) → Rd h v 2 (Rl l) → WP (R 32 [v, kI n] h) fun v' h' => New h h' (OR v' (enoughL l n))
theorem enough_ok {R : RnK} {N : Nat} {l : List (Nat × Nat)} {n : Nat} {v : Value} {h : Hs} (hN : 1000000 ≤ N) (hl : l.length ≤ 100) (hn : n ≤ 9223372036854775807) (hr : ∀ r ∈ l, r.2 ≤ 100000) (r : Rd h v 2 (Rl l)) : WP (r32 R N [v, kI n] h) fun v' h' => New h h' (OR v' (enoughL l n)) := by
 unfold r32
 obtain ⟨a, c, rfl⟩ := r.1.formN (Rl_len l)
 have H := Sto.enter1 r
 have l1 := Rl_len l
 repeat' (first | (with_reducible first | refine w_jn ?_ | refine w_unC ?_ | refine w_enK ?_ | refine w_lenV ?_))
 replace H := H.nilS 52 2
 refine lp_ind (Good := fun k (self : L6) => ∀ (i n' : Nat) (out : List (Nat × Nat)) (y1 y2 y3 cur : Value) (w : Hs), i + k = l.length → out.length = i → n' ≤ 9223372036854775807 → out ++ enoughL (l.drop i) n' = enoughL l n → Sto h [] w [OR cur out, .rsl (.slice a l.length c) 2 (Rl l)] → WP (self (kI i) y1 (kI n') y2 y3 cur w) (fun v' h' => New h h' (OR v' (enoughL l n)))) (fun k self ih i n' out y1 y2 y3 cur w hi ho hn' hq H1 => ?_) N l.length (by omega) 0 n [] _ _ _ _ _ (by omega) rfl hn rfl H
 clear H
 have H := H1
 clear H1
 obtain ⟨ac, cc, rfl⟩ := (show OwnSl w cur 52 2 _ _ _ from H.ok _ (List.mem_of_getElem? (i := 0) rfl)).form
 repeat' (first | (with_reducible first | refine w_jn ?_ | refine w_cndT ?_ | refine w_cndF ?_) | ((with_reducible refine w_lss_NN (fun _ => ?_) (fun _ => ?_)) <;> first | (exfalso; omega) | skip))
 ·have ii : i < l.length := by omega
  have rb := hr _ (List.getElem_mem ii)
  refine w_at 1 H rfl (Rl_get ii) rfl rfl ?_
  rw [List.drop_eq_getElem_cons ii, show enoughL (l[i] :: l.drop (i + 1)) n' = if n' = 0 then [] else (l[i].1, min l[i].2 n') :: enoughL (l.drop (i + 1)) (n' - min l[i].2 n') from rfl] at hq
  repeat' (first | (with_reducible first | refine w_jn ?_ | refine w_cndT ?_ | refine w_cndF ?_ | refine w_fieldA ?_ | refine w_min_NN ?_) | ((with_reducible refine w_alloc H ?_) ; (clear H; intro u H hu)) | ((with_reducible apply w_mkrow H) ; rfl; (clear H; intro u H hu; (try dsimp only [List.set_cons_zero, List.set_cons_succ, cellsL, List.toList_toArray, splice, ev, rep, List.cons_append, List.nil_append] at H))) | ((with_reducible refine w_eql_NN (fun _ => ?_) (fun _ => ?_)) <;> first | (exfalso; omega) | skip) | ((with_reducible refine w_sub_NN ?_ ?_ ?_) ; omega; omega) | ((with_reducible apply w_load 0 H) ; rfl; rfl; rfl) | ((with_reducible apply w_store1 0 H) ; rfl; (simp only [List.length_cons, List.length_nil]; omega); rfl; (clear H; intro u H hu; (try dsimp only [List.set_cons_zero, List.set_cons_succ, cellsL, List.toList_toArray, splice, ev, rep, List.cons_append, List.nil_append] at H))) | ((with_reducible apply w_storeV 0 H) ; rfl; rfl; rfl; omega; rfl; (clear H; intro u H hu; (try dsimp only [List.set_cons_zero, List.set_cons_succ, cellsL, List.toList_toArray, splice, ev, rep, List.cons_append, List.nil_append] at H))) | ((with_reducible apply w_loadsF 0 H) ; rfl; rfl; rfl))
  ·rw [if_pos (by assumption), List.append_nil] at hq
   dsimp only
   subst hq
   exact w_clrO 1 H rfl fun v' h' n => n
  ·rw [if_neg (by assumption)] at hq
   refine w_appendB 2 0 H rfl rfl rfl rfl (by omega) (by omega) fun v3 u4 H4 hn4 => ?_
   clear H
   generalize hx : l[i].1 = x at *
   generalize hy : min l[i].2 n' = y at *
   have rc : Rc (out ++ [(x, y)]) = Rc out ++ [kI x, kI y] := Rc_snoc _ _
   have nfl : Th.osl v3 52 2 true (out.length + 1) (Rc out ++ [kI x, kI y]) = OR v3 (out ++ [(x, y)]) := by
    rw [← rc]; show _ = Th.osl v3 _ 2 true (out ++ [(x, y)]).length _; rw [List.length_append]; rfl
   have H : Sto h [] u4 [OR v3 (out ++ [(x, y)]), .rsl (.slice a l.length c) 2 (Rl l)] := by rw [← nfl]; exact H4.tail.tail
   repeat' (first | ((with_reducible refine w_add_NN ?_ ?_) ; omega))
   exact ih (k - 1) (by omega) (i + 1) (n' - y) (out ++ [(x, y)]) _ _ _ _ _ (by omega) (by rw [List.length_append, ho]; rfl) (by omega) (by rw [List.append_assoc]; exact hq) H
 ·rw [List.drop_of_length_le (by omega), show enoughL [] n' = [] from rfl, List.append_nil] at hq
  subst hq
  exact w_clrO 0 H rfl fun v' h' n => n
theorem enoughL_mem : ∀ {l : List (Nat × Nat)} {n : Nat}, (∀ r ∈ l, 1 ≤ r.2) → ∀ r ∈ enoughL l n, ∃ q ∈ l, r.1 = q.1 ∧ 1 ≤ r.2 ∧ r.2 ≤ q.2 := by
 intro l
 induction l with
 | nil => intro n _ r hr; cases hr
 | cons q l ih =>
  intro n h1 r hr
  rw [show enoughL (q :: l) n = if n = 0 then [] else (q.1, min q.2 n) :: enoughL l (n - min q.2 n) from rfl] at hr
  split at hr
  ·cases hr
  ·rcases List.mem_cons.1 hr with rfl | hr
   ·have := h1 q (List.mem_cons_self ..)
    exact ⟨q, List.mem_cons_self .., rfl, by dsimp only; omega, by dsimp only; omega⟩
   ·obtain ⟨x, hx, h2⟩ := ih (fun r hr => h1 r (List.mem_cons_of_mem _ hr)) r hr
    exact ⟨x, List.mem_cons_of_mem _ hx, h2⟩
theorem enoughL_len : ∀ {l : List (Nat × Nat)} {n : Nat}, (enoughL l n).length ≤ l.length := by
 intro l
 induction l with
 | nil => intro n; exact Nat.le_refl _
 | cons q l ih =>
  intro n
  rw [show enoughL (q :: l) n = if n = 0 then [] else (q.1, min q.2 n) :: enoughL l (n - min q.2 n) from rfl]
  split
  ·exact Nat.zero_le _
  ·rw [List.length_cons, List.length_cons]; have := ih (n := n - min q.2 n); omega
theorem PlAt.to {h h' : Hs} {g : Geo} {p : Nat} {v : Value} {W : List Nat} (A : PlAt h g p v W) (e1 : h'.hp = h.hp) (e2 : h'.nx = h.nx) : PlAt h' g p v W := by
 obtain ⟨a, b, c⟩ := h'
 cases e1
 cases e2
 exact ⟨A.ok, A.b2, A.pl, A.row, Rd.lo A.rd _, A.ne, A.len, A.sm⟩
theorem PlAt.same {h h' : Hs} {g : Geo} {p : Nat} {v : Value} {W : List Nat} (A : PlAt h g p v W) (s : Same h h') : PlAt h' g p v W :=
 ⟨A.ok, A.b2, Nat.lt_of_lt_of_le A.pl s.1.1, by rw [s.1.2 p A.pl]; exact A.row, ⟨RdSl.congr A.rd.1 fun b hb => s.1.2 b (A.rd.2 b hb), fun b hb => Nat.lt_of_lt_of_le (A.rd.2 b hb) s.1.1⟩, A.ne, A.len, A.sm⟩
theorem PlAt.id {h : Hs} {g : Geo} {p : Nat} {v : Value} {W : List Nat} (A : PlAt h g p v W) : ∃ b, b < h.nx ∧ ∀ W' : List Nat, W'.length = W.length → Th.id (.rsl v 1 (Wl W')) = some b := by
 obtain ⟨x1, x2, x3, x4, x5⟩ := A.ok.dt
 have ln := A.len
 rcases A.rd.1.2 with ⟨_, _, _, z⟩ | ⟨id, o, c, cs, sz, e, u', rw_, f, z, _⟩
 ·have := Wl_len W
  rw [z] at this
  have : W.length = 0 := this.symm
  omega
 ·have g : ∀ W' : List Nat, W'.length = W.length → Th.id (.rsl v 1 (Wl W')) = some id := fun W' hW => by
   rw [z]
   have : (Wl W').length = W'.length := Wl_len W'
   cases h2 : Wl W' with
   | nil => rw [h2] at this; have : W'.length = 0 := this.symm; omega
   | cons x l => rfl
  exact ⟨id, A.rd.2 id (g W rfl), g⟩
theorem PlQ.ne {h h' : Hs} {g : Geo} {p : Nat} {v v' : Value} {W W' : List Nat} (A : PlAt h g p v W) (q : PlQ h h' g p v W v' W') (hW : W' ≠ W) : h'.hp.get p ≠ h.hp.get p := fun e => by
 obtain ⟨mu, A', hv⟩ := q
 have r := A'.row
 rw [e] at r
 have := row_inj r A.row
 subst this
 rcases hv with ⟨_, z⟩ | z
 ·exact hW z
 ·obtain ⟨b, hb, hi⟩ := A.id
  have := z b (hi W' (by rw [A'.len, A.len]))
  omega
def CMark0 (R : RnK) : Prop := ∀ (g : Geo) (p : Nat) (yes : Bool) (s : Value) (h : Hs), (∃ a c, s = .slice a 0 c) → R 34 [pV p, .bool yes, s] h = some (.val (.tuple #[]) h)
theorem mark0_ok {R : RnK} {N : Nat} {p : Nat} {yes : Bool} {s : Value} {h : Hs} (hN : 1000000 ≤ N) (hs : ∃ a c, s = .slice a 0 c) : r34 R N [pV p, .bool yes, s] h = some (.val (.tuple #[]) h) := by
 refine WP.eqn ?_
 unfold r34
 obtain ⟨a, c, rfl⟩ := hs
 have H := Sto.enter h
 obtain ⟨N, rfl⟩ : ∃ q, N = q + 1 := ⟨N - 1, by omega⟩
 repeat' (first | (with_reducible first | refine w_jn ?_ | refine w_unC ?_ | refine w_enK ?_ | refine w_lenV ?_))
 rw [lpT_succ]
 repeat' (first | (with_reducible first | refine w_jn ?_ | refine w_cndF ?_) | ((with_reducible refine w_lss_NN (fun _ => ?_) (fun _ => ?_)) <;> first | (exfalso; omega) | skip))
 exact w_clr H rfl ⟨rfl, rfl⟩
def CTakeNo (R : RnK) : Prop := ∀ (g : Geo) (p : Nat) (v : Value) (W : List Nat) (c n mo : Int) (h : Hs), PlAt h g p v W → (c < 0 ∨ (g.c : Int) ≤ c ∨ n < 0 ∨ mo < 1) → R 9 [pV p, .int .i64 c, .int .i64 n, .int .i64 mo] h = some (.val (.tuple #[.slice none 0 0, kI 1]) h)
theorem takeNo_ok {R : RnK} {N : Nat} (cg : CGroup R) {g : Geo} {p : Nat} {v : Value} {W : List Nat} {c n mo : Int} {h : Hs} (A : PlAt h g p v W) (hb : c < 0 ∨ (g.c : Int) ≤ c ∨ n < 0 ∨ mo < 1) : r9 R N [pV p, .int .i64 c, .int .i64 n, .int .i64 mo] h = some (.val (.tuple #[.slice none 0 0, kI 1]) h) := by
 refine WP.eqn ?_
 unfold r9
 have H := A.enter
 unfold plO plC at H
 refine w_unC ?_
 refine w_unC ?_
 refine w_unC ?_
 refine w_unC ?_
 refine w_enK ?_
 refine w_boxV H rfl rfl fun u1 H1 hu1 => ?_
 clear H
 have H := H1
 clear H1
 refine w_call (cg g p v W c _ (PlAt.of2 1 2 H rfl rfl A.ne A.ok A.b2 A.len A.sm)) fun r2 u2 q => ?_
 obtain ⟨rfl, f, o, rfl, hf, ho⟩ := q
 repeat' (first | (with_reducible first | refine w_jn ?_ | refine w_cndT ?_ | refine w_gFt ?_ | refine w_gFf ?_ | refine w_pickT ?_ | refine w_pickF ?_ | refine w_fieldA ?_ | refine w_nil ?_) | ((with_reducible apply w_extr) ; rfl) | ((with_reducible refine w_alloc H ?_) ; (clear H; intro u H hu)) | ((with_reducible first | refine w_lss_IN (fun _ => ?_) (fun _ => ?_) | refine w_geq_IN (fun _ => ?_) (fun _ => ?_)) <;> first | (exfalso; omega) | skip) | ((with_reducible apply w_store1 0 H) ; rfl; (simp only [List.length_cons, List.length_nil]; omega); rfl; (clear H; intro u H hu; (try dsimp only [List.set_cons_zero, List.set_cons_succ, cellsL, List.toList_toArray, splice, ev, rep, List.cons_append, List.nil_append] at H))) | ((with_reducible apply w_store1 1 H) ; rfl; (simp only [List.length_cons, List.length_nil]; omega); rfl; (clear H; intro u H hu; (try dsimp only [List.set_cons_zero, List.set_cons_succ, cellsL, List.toList_toArray, splice, ev, rep, List.cons_append, List.nil_append] at H))) | ((with_reducible apply w_load 2 H) ; rfl; rfl; rfl) | ((with_reducible apply w_loadR 3 H) ; rfl; rfl; rfl))
 all_goals exact w_clr H rfl ⟨rfl, rfl⟩
def TakeQ (h : Hs) (g : Geo) (p : Nat) (v : Value) (W : List Nat) (n mo : Nat) (r : Value) (h' : Hs) : Prop := ∃ (f o : Nat) (L : List (Nat × Nat)), L.Perm (rowsP g W) ∧ srt (keyT f o n) L L.length ∧
 (((sumR (enoughL L n) < n ∨ mo < (enoughL L n).length) ∧ h' = h ∧ r = .tuple #[.slice none 0 0, kI 7]) ∨
  (¬ (sumR (enoughL L n) < n ∨ mo < (enoughL L n).length) ∧ ∃ s v', r = .tuple #[s, kI 0] ∧ PlQ h h' g p v W v' (setRuns W true (enoughL L n)) ∧ Rd h' s 2 (Rl (enoughL L n)) ∧ ∀ b, Th.id (.rsl s 2 (Rl (enoughL L n))) = some b → h.nx ≤ b))
def CTake (R : RnK) : Prop := ∀ (g : Geo) (p : Nat) (v : Value) (W : List Nat) (c n mo : Nat) (h : Hs), PlAt h g p v W → (rowsP g W).length < 20 → c < g.c → n ≤ 9223372036854775807 → 1 ≤ mo → WP (R 9 [pV p, kI c, kI n, kI mo] h) (TakeQ h g p v W n mo)
theorem take_ok {R R0 R1 : RnK} {N : Nat} (cg : CGroup R) (cr : CRows R) (cs : CSortS R R0) (csn : CSortSN R) (cc : CCmpT R0 R1) (ce : CEnough R) (ct : CTotal R) (cm : CMarkP R) (cm0 : CMark0 R) {g : Geo} {p : Nat} {v : Value} {W : List Nat} {c n mo : Nat} {h : Hs} (A : PlAt h g p v W) (hrl : (rowsP g W).length < 20) (hc : c < g.c) (hn : n ≤ 9223372036854775807) (hmo : 1 ≤ mo) :
 WP (r9 R N [pV p, kI c, kI n, kI mo] h) (TakeQ h g p v W n mo) := by
 unfold r9
 obtain ⟨x1, x2, x3, x4, x5⟩ := A.ok.dt
 have H := A.enter
 unfold plO plC at H
 refine w_unC ?_
 refine w_unC ?_
 refine w_unC ?_
 refine w_unC ?_
 refine w_enK ?_
 refine w_boxV H rfl rfl fun u1 H1 hu1 => ?_
 clear H
 have H := H1
 clear H1
 refine w_call (cg g p v W c _ (PlAt.of2 1 2 H rfl rfl A.ne A.ok A.b2 A.len A.sm)) fun r2 u2 q => ?_
 obtain ⟨rfl, f, o, rfl, hf, ho⟩ := q
 repeat' (first | (with_reducible first | refine w_jn ?_ | refine w_cndF ?_ | refine w_gFf ?_ | refine w_pickF ?_ | refine w_fieldA ?_ | refine w_nil ?_) | ((with_reducible apply w_extr) ; rfl) | ((with_reducible refine w_alloc H ?_) ; (clear H; intro u H hu)) | ((with_reducible first | refine w_lss_NN (fun _ => ?_) (fun _ => ?_) | refine w_geq_NN (fun _ => ?_) (fun _ => ?_)) <;> first | (exfalso; omega) | skip) | ((with_reducible apply w_store1 0 H) ; rfl; (simp only [List.length_cons, List.length_nil]; omega); rfl; (clear H; intro u H hu; (try dsimp only [List.set_cons_zero, List.set_cons_succ, cellsL, List.toList_toArray, splice, ev, rep, List.cons_append, List.nil_append] at H))) | ((with_reducible apply w_store1 1 H) ; rfl; (simp only [List.length_cons, List.length_nil]; omega); rfl; (clear H; intro u H hu; (try dsimp only [List.set_cons_zero, List.set_cons_succ, cellsL, List.toList_toArray, splice, ev, rep, List.cons_append, List.nil_append] at H))) | ((with_reducible apply w_load 2 H) ; rfl; rfl; rfl) | ((with_reducible apply w_loadR 3 H) ; rfl; rfl; rfl))
 dsimp only
 refine w_call (cr g p v W _ (PlAt.of2 3 4 H rfl rfl A.ne A.ok A.b2 A.len A.sm)) fun s3 u3 n3 => ?_
 replace H := H.call n3
 refine w_mkfn ?_
 repeat' (first | ((with_reducible refine w_alloc H ?_) ; (clear H; intro u H hu)) | ((with_reducible apply w_store1 0 H) ; rfl; (simp only [List.length_cons, List.length_nil]; omega); rfl; (clear H; intro u H hu; (try dsimp only [List.set_cons_zero, List.set_cons_succ, cellsL, List.toList_toArray, splice, ev, rep, List.cons_append, List.nil_append] at H))))
 refine w_mkfn ?_
 rename_i oa hoa ob hob oc hoc od hod q1 q2 q3 q4 oe hoe
 have n3b := n3.2.2
 replace H := (((H.unfl 0 rfl).unfl 2 rfl).unfl 3 rfl).unfl 4 rfl
 dsimp only [List.set_cons_zero, List.set_cons_succ] at H
 have sc : WP (R 29 [s3, .func (.func 30) #[] #[pV h.nx, pV u3.nx]] u) (fun r u4 => r = .tuple #[] ∧ ∃ L, L.Perm (rowsP g W) ∧ srt (keyT f o n) L L.length ∧ Sto h [] u4 [.rsl s3 2 (Rl L), .blk h.nx (bxO (kI n) false 3), .rob p (plO g v), .rsl v 1 (Wl W)]) := by
  rcases n3.2.1.2 with ⟨rfl, z⟩ | ⟨id, c', cs', sz, f', rfl, hc', _⟩
  ·have e : rowsP g W = [] := List.eq_nil_of_length_eq_zero z
   rw [e]
   refine ⟨_, _, csn _ _, rfl, [], List.Perm.refl _, fun a b _ h => absurd h (Nat.not_lt_zero b), ?_⟩
   have H2 := H.sel [4, 5, 6] 7 rfl (by decide) (by decide)
   dsimp only [List.filterMap_cons, List.filterMap_nil, List.getElem?_cons_zero, List.getElem?_cons_succ] at H2
   exact H2.cons _ (Rd.none _ _).1 (fun b hb => by cases hb) (fun s hs _ b hb => by cases hb)
  ·have hu3 := H.lt 0 rfl
   have hoa2 := H.lt 2 rfl
   have hu22 := H.lt 3 rfl
   have hh2 := H.lt 4 rfl
   have d0 : u3.nx ≠ id := fun e => H.dj 1 0 _ _ rfl rfl (by decide) rfl id rfl (by rw [← e]; rfl)
   have d2 : oa.nx ≠ id := fun e => H.dj 1 2 _ _ rfl rfl (by decide) rfl id rfl (by rw [← e]; rfl)
   have d3 : u2.nx ≠ id := fun e => H.dj 1 3 _ _ rfl rfl (by decide) rfl id rfl (by rw [← e]; rfl)
   have d4 : h.nx ≠ id := fun e => H.dj 1 4 _ _ rfl rfl (by decide) rfl id rfl (by rw [← e]; rfl)
   have hid := (H.ids _ (List.mem_of_getElem? (i := 1) rfl) id rfl).1
   refine (cs (rowsP g W) id c' 30 [pV h.nx, pV u3.nx] (keyT f o n) u hrl hc' hid (H.ok _ (List.mem_of_getElem? (i := 1) rfl)) fun w hw hg r q hr hq => ?_).mono fun r u4 hq => ?_
   ·obtain ⟨_, _, e, rfl, y, rfl, hy⟩ := cc r q f o n u2.nx oa.nx h.nx u3.nx false false false false w hf ho (by omega) (by omega) (by omega) (by omega) (by rw [hg _ hu22 d3]; exact H.holds 3 rfl) (by rw [hg _ hoa2 d2]; exact H.holds 2 rfl) (by rw [hg _ hh2 d4]; exact H.holds 4 rfl) (by rw [hg _ hu3 d0]; exact H.holds 0 rfl)
    exact ⟨y, e, hy⟩
   ·obtain ⟨rfl, mu, L, hp, hs, hL⟩ := hq
    refine ⟨rfl, L, hp, hs, ?_⟩
    have H3 := Sto.updO 1 H rfl mu hL
    dsimp only [List.set_cons_zero, List.set_cons_succ] at H3
    have rd : Rd u4 (.slice (some ⟨id, 0, none⟩) (rowsP g W).length c') 2 (Rl L) := H3.rdOU 1 rfl rfl (Rl_two L) ((Rl_len L).trans hp.length_eq)
    have H2 := H3.sel [4, 5, 6] 7 rfl (by decide) (by decide)
    dsimp only [List.filterMap_cons, List.filterMap_nil, List.getElem?_cons_zero, List.getElem?_cons_succ] at H2
    refine H2.cons _ rd.1 (fun b hb => ⟨rd.2 b hb, fun e => by cases e⟩) (fun s hs hx b hb => ?_)
    obtain rfl := id_rsl hb
    simp only [List.mem_cons, List.not_mem_nil, or_false] at hs
    rcases hs with rfl | rfl | rfl
    ·intro e; injection e with e; exact d4 e
    ·rcases hx with e | e <;> cases e
    ·rcases hx with e | e <;> cases e
 refine w_call sc fun r4 u4 q => ?_
 clear H sc
 obtain ⟨rfl, L, hp, hs, H⟩ := q
 have row : ∀ r ∈ L, IsRow (hasBit W) g.dataAt (g.dataAt + g.dataN) r := fun r hr => rowsF_row1 (Nat.le_add_right _ _) r (hp.mem_iff.1 hr)
 have em := enoughL_mem (n := n) fun r hr => (row r hr).ln
 have pl := hp.length_eq
 have el := enoughL_len (l := L) (n := n)
 have ec : Cnt (enoughL L n) := fun r hr => by
  obtain ⟨q, hq, e1, e2, e3⟩ := em r hr
  have := (row q hq).hi
  omega
 unfold bxO at H
 repeat' (first | ((with_reducible apply w_load 1 H) ; rfl; rfl; rfl))
 have h4 := H.nx
 refine w_call (ce L n s3 _ (by omega) hn (fun r hr => by have := (row r hr).hi; omega) (H.rd 0 rfl)) fun v5 u5 n5 => ?_
 replace H := H.call n5
 refine w_callE (ct (enoughL L n) v5 _ ec (by omega) (Rd.lo (H.rdOR 0 rfl) _)) ?_
 refine w_light0 ?_
 have es : sumR (enoughL L n) ≤ 100000000000 := by have := cnt_sum ec; omega
 obtain ⟨va, vc, rfl⟩ := n5.2.1.form
 repeat' (first | (with_reducible first | refine w_jn ?_ | refine w_cndT ?_ | refine w_cndF ?_ | refine w_gFt ?_ | refine w_gFf ?_ | refine w_pickT ?_ | refine w_pickF ?_ | refine w_lenV ?_ | refine w_blind ?_) | ((with_reducible first | refine w_lss_NN (fun _ => ?_) (fun _ => ?_) | refine w_gtr_NN (fun _ => ?_) (fun _ => ?_)) <;> first | (exfalso; omega) | skip) | ((with_reducible apply w_loadD 2 H) ; rfl; rfl; (intro _; simp only [HidOk, and_true]; omega)))
 ·exact w_clr H rfl ⟨f, o, L, hp, hs, .inl ⟨.inl (by omega), rfl, rfl⟩⟩
 ·exact w_clr H rfl ⟨f, o, L, hp, hs, .inl ⟨.inr (by omega), rfl, rfl⟩⟩
 dsimp only
 have nc : ¬ (sumR (enoughL L n) < n ∨ mo < (enoughL L n).length) := by omega
 have hnx := H.nx
 by_cases e0 : enoughL L n = []
 ·refine w_callE (cm0 g p true _ _ ⟨va, vc, by rw [e0]; rfl⟩) ?_
  refine w_clrC (fun v => .tuple #[v, .int .i64 (.ofNat 0)]) 0 H rfl (fun _ _ _ => by simp [blkV, blkP, blkC]) (fun _ _ _ _ => rfl) fun v' h' n' => ⟨f, o, L, hp, hs, .inr ⟨nc, v', v, rfl, ?_, ?_, fun b hb => ?_⟩⟩
  ·rw [e0]
   exact ⟨⟨n'.1.1.1, fun id hid _ => n'.1.1.2 id hid, fun x h1 _ => by rw [n'.1.2]; exact h1, Nat.le_of_eq n'.1.2, .inr (n'.1.1.2 p A.pl)⟩, A.same n'.1, .inl ⟨rfl, rfl⟩⟩
  ·rw [e0]
   have := n'.2.1
   rw [e0] at this
   obtain ⟨a, c, rfl⟩ := this.form
   exact ⟨⟨fun l hl => (List.not_mem_nil hl).elim, .inl ⟨_, _, rfl, rfl⟩⟩, fun b hb => (by cases hb)⟩
  ·rw [e0] at hb; cases hb
 ·generalize hout : enoughL L n = out at *
  have hi : ∀ r ∈ out, 1 ≤ r.2 ∧ r.1 + r.2 ≤ 64 * W.length ∧ hasBit W r.1 = false := fun r hr => by
   obtain ⟨q, hq, e1, e2, e3⟩ := em r hr
   have h1 := (row q hq).hi
   have h2 := A.len
   exact ⟨e2, by omega, by rw [e1]; exact (row q hq).fr _ (Nat.le_refl _) (by omega)⟩
  have n5i := n5.2.2
  have rd := H.rdOR 0 rfl
  have nep : Th.id (.rsl (.slice va out.length vc) 2 (Rl out)) ≠ some p := fun e => by
   have : vId (.slice va out.length vc) = some p := by
    cases out with
    | nil => exact absurd rfl e0
    | cons x l => exact e
   have := (n5i p this).1
   have := A.pl
   omega
  rw [Rl_iR] at rd nep
  refine w_call (cm g p v W true (iR out) _ _ (PlAt.of2 3 4 H rfl rfl A.ne A.ok A.b2 A.len A.sm) (by unfold iR; rw [List.length_map]; omega) (fun r hr _ => ?_) rd nep) fun r6 u6 q6 => ?_
  ·unfold iR at hr
   obtain ⟨q, hq, rfl⟩ := List.mem_map.1 hr
   have := hi q hq
   dsimp only
   omega
  obtain ⟨rfl, v', Q6⟩ := q6
  rw [nR_iR fun r hr => (hi r hr).1] at Q6
  have h5 := n5.1.1.1
  have A5 : PlAt u5 g p v W := PlAt.of2 3 4 H rfl rfl A.ne A.ok A.b2 A.len A.sm
  have wne : setRuns W true out ≠ W := fun e => by
   obtain ⟨r, l, rfl⟩ : ∃ r l, out = r :: l := by
    cases out with
    | nil => exact absurd rfl e0
    | cons r l => exact ⟨r, l, rfl⟩
   have h1 := hi r (List.mem_cons_self ..)
   have := (hb_runs (yes := true) (fun q hq => (hi q hq).2.1) r.1).1 ⟨r, List.mem_cons_self .., Nat.le_refl _, by omega⟩
   rw [e, h1.2.2] at this
   cases this
  have pne := Q6.ne A5 wne
  obtain ⟨mu, A6, hv⟩ := Q6
  have p5 : u5.hp.get p = h.hp.get p := H.fr p A.pl (fun q => by cases q)
  have H2 := (H.sel [0, 4] 5 rfl (by decide) (by decide)).wide [p]
  dsimp only [List.filterMap_cons, List.filterMap_nil, List.getElem?_cons_zero, List.getElem?_cons_succ] at H2
  have H3 := H2.own (b := p) (o := plO g v) A.pl (by simp) (by rw [p5]; exact A.row) fun s hs e => by
   simp only [List.mem_cons, List.not_mem_nil, or_false] at hs
   rcases hs with rfl | rfl
   ·have := (n5i p e).1
    have := A.pl
    omega
   ·exact A.ne e
  have H4 := H3.mut 0 rfl mu A6.row
  dsimp only [List.set_cons_zero] at H4
  have rd6 := H4.rdOR 1 rfl
  refine w_clrSN (b := p) H4 A.pl (by simp) (fun s hs => by rw [List.mem_singleton.1 hs]; exact A.pl) (by rw [← p5]; exact pne) fun h'' M e1 e2 => ⟨f, o, L, hp, hs, ?_⟩
  rw [hout]
  refine .inr ⟨nc, _, v', rfl, ⟨mut_of M, A6.to e1 e2, ?_⟩, ?_, fun b hb => ?_⟩
  ·rcases hv with z | z
   ·exact .inl z
   ·exact .inr fun b hb => by have := z b hb; omega
  ·obtain ⟨a', b', c'⟩ := h''
   cases e1
   cases e2
   exact Rd.lo rd6 _
  ·have : vId (.slice va out.length vc) = some b := by
    cases out with
    | nil => exact absurd rfl e0
    | cons x l => exact hb
   have := (n5i b this).1
   omega
set_option linter.unusedSimpArgs false
def gOk (g : Geo) (W : List Nat) (l : List (Int × Int)) (i : Nat) : Prop := ∀ r, l[i]? = some r → 1 ≤ r.2 → (g.dataAt : Int) ≤ r.1 ∧ r.1 + r.2 ≤ (g.dataAt : Int) + g.dataN ∧ djL (cR (l.take (i + 1))) ∧ ∀ y : Nat, r.1 ≤ y → (y : Int) < r.1 + r.2 → hasBit W y = true
def GiveOk (g : Geo) (W : List Nat) (l : List (Int × Int)) : Prop := ∀ i, i < l.length → gOk g W l i
def CGive (R : RnK) : Prop := ∀ (g : Geo) (p : Nat) (v : Value) (W : List Nat) (l : List (Int × Int)) (s : Value) (h : Hs), PlAt h g p v W → l.length ≤ 12 → (∀ r ∈ l, In64 r.1 ∧ In64 r.2) → Rd h s 2 (Ril l) → Th.id (.rsl s 2 (Ril l)) ≠ some p → WP (R 18 [pV p, s] h) fun r h' =>
 (GiveOk g W l ∧ r = kI 0 ∧ ∃ v', PlQ h h' g p v W v' (setRuns W false (nR l))) ∨ (¬ GiveOk g W l ∧ r = kI 1 ∧ h' = h)
theorem give_ok {R : RnK} {N : Nat} (cd : CDataF R) (ca : CApart R) (cn : CNext R) (cm : CMarkP R) {g : Geo} {p : Nat} {v : Value} {W : List Nat} {l : List (Int × Int)} {s : Value} {h : Hs} (hN : 1000000 ≤ N) (A : PlAt h g p v W) (hl : l.length ≤ 12) (hb : ∀ r ∈ l, In64 r.1 ∧ In64 r.2) (r : Rd h s 2 (Ril l)) (hne : Th.id (.rsl s 2 (Ril l)) ≠ some p) :
 WP (r18 R N [pV p, s] h) fun r h' =>
 (GiveOk g W l ∧ r = kI 0 ∧ ∃ v', PlQ h h' g p v W v' (setRuns W false (nR l))) ∨ (¬ GiveOk g W l ∧ r = kI 1 ∧ h' = h) := by
 have cdg := cd g
 unfold Geo.v at cdg
 unfold r18
 obtain ⟨sa, sc, rfl⟩ := r.1.formN (Ril_len l)
 obtain ⟨x1, x2, x3, x4, x5⟩ := A.ok.dt
 have l1 := Ril_len l
 have ln := A.len
 have H := Sto.enterR h [.rob p (plO g v), .rsl v 1 (Wl W), .rsl (.slice sa l.length sc) 2 (Ril l)] fun t ht => by
  simp only [List.mem_cons, List.not_mem_nil, or_false] at ht
  rcases ht with rfl | rfl | rfl
  ·exact ⟨rfl, A.row, fun b hb => by injection hb with e; subst e; exact A.pl⟩
  ·exact ⟨rfl, A.rd.1, fun b hb => A.rd.2 b hb⟩
  ·exact ⟨rfl, r.1, fun b hb => r.2 b hb⟩
 unfold plO plC at H
 repeat' (first | (refine w_callE (cdg _ A.ok) ?_) | (with_reducible first | refine w_jn ?_ | refine w_unC ?_ | refine w_enK ?_ | refine w_fieldA ?_ | refine w_nil ?_ | refine w_lenV ?_) | ((with_reducible apply w_extr) ; rfl) | ((with_reducible apply w_loadsR 0 H) ; rfl; rfl; rfl; rfl; (try dsimp only [List.drop_zero, List.drop_succ_cons, List.take_succ_cons, List.take_zero])))
 refine lp_ind (Good := fun n (self : L9) => ∀ (i : Nat) (y1 y2 y3 y4 y5 y6 y7 y8 : Value) (w : Hs), i + n = l.length → (∀ k, k < i → gOk g W l k) → Sto h [] w [.rob p (plO g v), .rsl v 1 (Wl W), .rsl (.slice sa l.length sc) 2 (Ril l)] → WP (self (kI i) y1 y2 y3 y4 y5 y6 y7 y8 w) (fun r h' =>
 (GiveOk g W l ∧ r = kI 0 ∧ ∃ v', PlQ h h' g p v W v' (setRuns W false (nR l))) ∨ (¬ GiveOk g W l ∧ r = kI 1 ∧ h' = h))) (fun n self ih i y1 y2 y3 y4 y5 y6 y7 y8 w hi hq H1 => ?_) N l.length (by omega) 0 _ _ _ _ _ _ _ _ _ (by omega) (fun k hk => by omega) H
 clear H
 have H := H1
 clear H1
 have hx := H.nx
 repeat' (first | (with_reducible first | refine w_jn ?_ | refine w_cndT ?_ | refine w_cndF ?_) | ((with_reducible refine w_lss_NN (fun _ => ?_) (fun _ => ?_)) <;> first | (exfalso; omega) | skip))
 ·have ii : i < l.length := by omega
  refine w_at 2 H rfl (Ril_get ii) rfl rfl ?_
  have rb := hb _ (List.getElem_mem ii)
  have rb1 := rb.1.1
  have rb2 := rb.1.2
  have rb3 := rb.2.1
  have rb4 := rb.2.2
  have nxt : ∀ (y1 y2 y3 y4 y5 y6 y7 y8 : Value) (w : Hs), Sto h [] w [.rob p (plO g v), .rsl v 1 (Wl W), .rsl (.slice sa l.length sc) 2 (Ril l)] → gOk g W l i → n ≠ 0 → WP (self (kI (i + 1)) y1 y2 y3 y4 y5 y6 y7 y8 w) (fun r h' =>
 (GiveOk g W l ∧ r = kI 0 ∧ ∃ v', PlQ h h' g p v W v' (setRuns W false (nR l))) ∨ (¬ GiveOk g W l ∧ r = kI 1 ∧ h' = h)) := fun y1 y2 y3 y4 y5 y6 y7 y8 w H1 hg n0 => ih (n - 1) (by omega) (i + 1) _ _ _ _ _ _ _ _ _ (by omega) (fun k hk => by
  by_cases e : k = i
  ·rw [e]; exact hg
  ·exact hq k (by omega)) H1
  have gi : l[i]? = some l[i] := List.getElem?_eq_getElem ii
  have no : ∀ (w : Hs) (m : List Th), Sto h [] w m → ¬ gOk g W l i → WP (clrK h (kI 1) w) (fun r h' =>
 (GiveOk g W l ∧ r = kI 0 ∧ ∃ v', PlQ h h' g p v W v' (setRuns W false (nR l))) ∨ (¬ GiveOk g W l ∧ r = kI 1 ∧ h' = h)) := fun w m H1 hg => w_clr H1 rfl (.inr ⟨fun z => hg (z i ii), rfl, rfl⟩)
  repeat' (first | (with_reducible first | refine w_jn ?_ | refine w_cndT ?_ | refine w_cndF ?_ | refine w_gFt ?_ | refine w_gFf ?_ | refine w_pickT ?_ | refine w_pickF ?_ | refine w_fieldA ?_) | ((with_reducible refine w_alloc H ?_) ; (clear H; intro u H hu)) | ((with_reducible first | refine w_lss_IN (fun _ => ?_) (fun _ => ?_) | refine w_gtr_II (fun _ => ?_) (fun _ => ?_) | refine w_geq_IN (fun _ => ?_) (fun _ => ?_)) <;> first | (exfalso; omega) | skip) | ((with_reducible refine w_add_NN ?_ ?_) ; omega) | ((with_reducible refine w_sub_IN ?_ ?_ ?_) ; omega; omega) | ((with_reducible refine w_sub_NI ?_ ?_ ?_) ; omega; omega) | ((with_reducible apply w_load 0 H) ; rfl; rfl; rfl) | ((with_reducible apply w_storeV 0 H) ; rfl; rfl; rfl; omega; rfl; (clear H; intro u H hu; (try dsimp only [List.set_cons_zero, List.set_cons_succ, cellsL, List.toList_toArray, splice, ev, rep, List.cons_append, List.nil_append] at H))))
  ·exact nxt _ _ _ _ _ _ _ _ _ H.tail (fun r hr h1 => by rw [gi] at hr; injection hr with hr; subst hr; omega) (by omega)
  ·exact no _ _ H fun z => by have := z _ gi (by omega); omega
  ·exact no _ _ H fun z => by have := z _ gi (by omega); omega
  ·exact no _ _ H fun z => by have := z _ gi (by omega); omega
  obtain ⟨a, ha⟩ := Int.eq_ofNat_of_zero_le (show 0 ≤ l[i].1 by omega)
  obtain ⟨k, hk⟩ := Int.eq_ofNat_of_zero_le (show 0 ≤ l[i].2 by omega)
  have ak : a + k ≤ g.dataAt + g.dataN := by omega
  have a1 : g.dataAt ≤ a := by omega
  have k1 : 1 ≤ k := by omega
  refine w_slH 3 H rfl (by rw [l1]; omega) fun v6 H6 => ?_
  clear H
  have H := H6
  clear H6
  rw [show (Ril l).take (i + 1) = Ril (l.take (i + 1)) from by unfold Ril; rw [List.map_take]] at H
  repeat' (first | (with_reducible refine w_gFf ?_))
  refine w_call (ca (l.take (i + 1)) v6 _ (by rw [List.length_take]; omega) (H.rd 0 rfl)) fun r7 u7 q7 => ?_
  obtain ⟨rfl, bb, rfl, hbb⟩ := q7
  rw [ha, hk] at H
  cases bb
  ·repeat' (first | (with_reducible first | refine w_jn ?_ | refine w_cndT ?_ | refine w_gFf ?_ | refine w_pickF ?_ | refine w_notF ?_))
   exact no _ _ H fun z => by have := (z _ gi (by omega)).2.2.1; cases hbb.2 this
  ·repeat' (first | (with_reducible first | refine w_jn ?_ | refine w_cndF ?_ | refine w_gFf ?_ | refine w_pickF ?_ | refine w_notT ?_ | refine w_fieldA ?_ | refine w_nil ?_) | ((with_reducible refine w_add_II ?_ ?_ ?_) ; omega; omega) | ((with_reducible apply w_load 1 H) ; rfl; rfl; rfl) | ((with_reducible apply w_loadsR 2 H) ; rfl; rfl; rfl; rfl; (try dsimp only [List.drop_zero, List.drop_succ_cons, List.take_succ_cons, List.take_zero])))
   refine w_call (cn W false a (a + k) v _ A.sm (by omega) (by omega) (H.rd 3 rfl)) fun r8 u8 q8 => ?_
   obtain ⟨rfl, q8⟩ := q8
   rcases q8 with ⟨x, rfl, xa, xk, xf, _⟩ | ⟨rfl, xq⟩
   ·repeat' (first | (with_reducible first | refine w_jn ?_ | refine w_cndT ?_) | ((with_reducible apply w_extr) ; rfl) | ((with_reducible refine w_bar ?_ ?_) ; omega))
    exact no _ _ H fun z => by
     have := (z _ gi (by omega)).2.2.2 x (by omega) (by omega)
     rw [xf] at this; cases this
   ·repeat' (first | (with_reducible first | refine w_jn ?_ | refine w_cndF ?_) | ((with_reducible apply w_extr) ; rfl) | ((with_reducible first | refine w_bar ?_ ?_ | refine w_add_NN ?_ ?_) ; omega))
    exact nxt _ _ _ _ _ _ _ _ _ H.tail.tail (fun r hr h1 => by
     rw [gi] at hr
     injection hr with hr
     subst hr
     refine ⟨by omega, by omega, hbb.1 rfl, fun y h2 h3 => ?_⟩
     have := xq y (by omega) (by omega)
     simpa using this) (by omega)
 ·have gok : GiveOk g W l := fun k hk => hq k (by omega)
  dsimp only
  have Aw : PlAt w g p v W := PlAt.of2 0 1 H rfl rfl A.ne A.ok A.b2 A.len A.sm
  refine w_call (cm g p v W false l _ _ Aw (by omega) (fun r hr h1 => ?_) (H.rd 2 rfl) hne) fun r6 u6 q6 => ?_
  ·obtain ⟨j, hj, rfl⟩ := List.getElem_of_mem hr
   have := gok j hj _ (List.getElem?_eq_getElem hj) h1
   omega
  obtain ⟨rfl, v', Q6⟩ := q6
  have pne := Q6.ne Aw
  obtain ⟨mu, A6, hv⟩ := Q6
  have pw : w.hp.get p = h.hp.get p := H.fr p A.pl (fun q => by cases q)
  have H2 := (H.sel [] 3 rfl (by decide) (by decide)).wide [p]
  dsimp only [List.filterMap_cons, List.filterMap_nil, List.getElem?_cons_zero, List.getElem?_cons_succ] at H2
  have H3 := H2.own (b := p) (o := plO g v) A.pl (by simp) (by rw [pw]; exact A.row) fun s hs e => by cases hs
  have H4 := H3.mut 0 rfl mu A6.row
  dsimp only [List.set_cons_zero] at H4
  refine w_clrS H4 (fun s hs => by rw [List.mem_singleton.1 hs]; exact A.pl) rfl (fun h'' M e1 e2 => .inl ⟨gok, rfl, v', mut_of M, A6.to e1 e2, ?_⟩) (fun q => .inl ⟨gok, rfl, v', ?_⟩)
  ·rcases hv with z | z
   ·exact .inl z
   ·exact .inr fun b hb => by have := z b hb; omega
  ·have e1 := q p A.pl
   have hr := A6.row
   rw [e1] at hr
   have := row_inj hr A.row
   subst this
   have e2 : setRuns W false (nR l) = W := Classical.byContradiction fun z => pne z (e1.trans pw.symm)
   rw [e2]
   exact ⟨mut_refl h p, A, .inl ⟨rfl, rfl⟩⟩
set_option linter.unusedSimpArgs false
theorem w_ldX {Q : Value → Hs → Prop} {h0 h : Hs} {S : List Nat} {m : List Th} (k : Nat) {hh : Hs} {b o n c u i j : Nat} {L : List (List Value)} {l : List Value} {x : Value} {K : Value → An} (H : Sto h0 S h m) (hk : m[k]? = some (.rsl (.slice (some ⟨b, o, none⟩) n c) u L)) (hi : L[i]? = some l) (hv : l[j]? = some x) (hju : j < u) (hp : hh.hp = h.hp) (w : WP (K x) Q) : WP (kLoad (.pointer (some ⟨b, o + i * u + j, none⟩)) hh K) Q := by
 obtain ⟨_, z⟩ := H.ok _ (List.mem_of_getElem? hk)
 rcases z with ⟨_, _, _, z⟩ | ⟨id', o', c', cs, sz, e, u', rw_, f, z, hc, hb, hu, hg⟩
 ·rw [z] at hi; cases hi
 ·injection z with z1 z2 z3
  injection z1 with z1
  injection z1 with z1 z4
  subst z1
  subst z4
  rw [kLoad_ok (by rw [hp]; exact hb) ((hg i j l hi hju).trans hv)]; exact w
theorem w_ldsX {Q : Value → Hs → Prop} {h0 h : Hs} {S : List Nat} {m : List Th} (k : Nat) {hh : Hs} {b o n c u i : Nat} {L : List (List Value)} {l : List Value} {K : Value → An} (H : Sto h0 S h m) (hk : m[k]? = some (.rsl (.slice (some ⟨b, o, none⟩) n c) u L)) (hi : L[i]? = some l) (hl : l.length = u) (hp : hh.hp = h.hp) (w : WP (K (.agg l.toArray)) Q) : WP (kLoads u (.pointer (some ⟨b, o + i * u, none⟩)) hh K) Q := by
 obtain ⟨_, z⟩ := H.ok _ (List.mem_of_getElem? hk)
 rcases z with ⟨_, _, _, z⟩ | ⟨id', o', c', cs, sz, e, u', rw_, f, z, hc, hb, hu, hg⟩
 ·rw [z] at hi; cases hi
 ·injection z with z1 z2 z3
  injection z1 with z1
  injection z1 with z1 z4
  subst z1
  subst z4
  rw [kLoads_get (by rw [hp]; exact hb) hl fun j hj => hg i j l hi hj]; exact w
theorem sl_some {h : Hs} {a : Option Addr} {n c u : Nat} {L : List (List Value)} (r : Rd h (.slice a n c) u L) (hn : 0 < n) : ∃ b o, a = some ⟨b, o, none⟩ := by
 rcases r.1.2 with ⟨_, _, z, _⟩ | ⟨id, o, c, cs, sz, e, u', rw_, f, z, _⟩
 ·injection z with _ z; omega
 ·injection z with z; exact ⟨id, o, z⟩
def Ric (l : List (Int × Int)) : List Value := (Ril l).flatten
theorem Ric_snoc (l : List (Int × Int)) (r : Int × Int) : Ric (l ++ [r]) = Ric l ++ [.int .i64 r.1, .int .i64 r.2] := by
 unfold Ric Ril; rw [List.map_append, List.flatten_append]; show _ ++ (_ ++ []) = _; rw [List.append_nil]
abbrev ORi (v : Value) (l : List (Int × Int)) : Th := .osl v 80 2 true l.length (Ric l)
def COwn (R : RnK) : Prop := ∀ (l : List (Int × Int)) (v : Value) (h : Hs), l.length ≤ 100 → Rd h v 2 (Ril l) → WP (R 12 [v] h) fun v' h' => New h h' (ORi v' l)
theorem own_ok {R : RnK} {N : Nat} {l : List (Int × Int)} {v : Value} {h : Hs} (hN : 1000000 ≤ N) (hl : l.length ≤ 100) (r : Rd h v 2 (Ril l)) : WP (r12 R N [v] h) fun v' h' => New h h' (ORi v' l) := by
 unfold r12
 obtain ⟨a, c, rfl⟩ := r.1.formN (Ril_len l)
 have H := Sto.enter1 r
 have l1 := Ril_len l
 repeat' (first | (with_reducible first | refine w_jn ?_ | refine w_unC ?_ | refine w_enK ?_))
 replace H := H.nilS 80 2
 refine lp_ind (Good := fun n (self : L3) => ∀ (i : Nat) (y1 cur : Value) (w : Hs), i + n = l.length → Sto h [] w [.osl cur 80 2 true i (Ric (l.take i)), .rsl (.slice a l.length c) 2 (Ril l)] → WP (self (kI i) y1 cur w) (fun v' h' => New h h' (ORi v' l))) (fun n self ih i y1 cur w hi H1 => ?_) N l.length (by omega) 0 _ _ _ (by omega) H
 clear H
 have H := H1
 clear H1
 obtain ⟨ac, cc, rfl⟩ := (show OwnSl w cur 80 2 _ _ _ from H.ok _ (List.mem_of_getElem? (i := 0) rfl)).form
 repeat' (first | (with_reducible first | refine w_jn ?_ | refine w_cndT ?_ | refine w_cndF ?_ | refine w_lenV ?_) | ((with_reducible refine w_lss_NN (fun _ => ?_) (fun _ => ?_)) <;> first | (exfalso; omega) | skip))
 ·have ii : i < l.length := by omega
  obtain ⟨b, o, rfl⟩ := sl_some (H.rd 1 rfl) (by omega)
  have tk : Ric (l.take (i + 1)) = Ric (l.take i) ++ [.int .i64 l[i].1, .int .i64 l[i].2] := by
   rw [List.take_add_one, List.getElem?_eq_getElem ii]; exact Ric_snoc _ _
  repeat' (first | (with_reducible refine w_idx (by omega) ?_) | (refine w_ldX 1 H rfl (Ril_get ii) rfl (by decide) rfl ?_) | (with_reducible first | refine w_fieldA ?_ | refine w_blind ?_) | ((with_reducible apply w_build) ; rfl; (try dsimp only [splice, ev, cellsL, rep, List.cons_append, List.nil_append])) | ((with_reducible refine w_bar ?_ ?_) ; omega) | ((with_reducible apply w_mkrow H) ; rfl; (clear H; intro u H hu; (try dsimp only [List.set_cons_zero, List.set_cons_succ, cellsL, List.toList_toArray, splice, ev, rep, List.cons_append, List.nil_append] at H))))
  refine w_appendB 1 0 H rfl rfl rfl rfl (by omega) (by omega) fun v3 u4 H4 hn4 => ?_
  clear H
  have H : Sto h [] u4 [.osl v3 80 2 true (i + 1) (Ric (l.take (i + 1))), .rsl (.slice (some ⟨b, o, none⟩) l.length c) 2 (Ril l)] := by rw [tk]; exact H4.tail
  repeat' (first | ((with_reducible first | refine w_bar ?_ ?_ | refine w_add_NN ?_ ?_) ; omega))
  exact ih (n - 1) (by omega) (i + 1) _ _ _ (by omega) H
 ·obtain rfl : i = l.length := by omega
  rw [List.take_length] at H
  exact w_clrO 0 H rfl fun v' h' n => n
abbrev OR' (v : Value) (l : List (Nat × Nat)) : Th := .osl v 80 2 true l.length (Rc l)
theorem _root_.Go.Gev.Sto.rdOR' {h0 h : Hs} {S : List Nat} {m : List Th} (k : Nat) {v : Value} {l : List (Nat × Nat)} (H : Sto h0 S h m) (hk : m[k]? = some (.osl v 80 2 true l.length (Rc l))) : Rd h v 2 (Rl l) :=
 H.rdOU k hk rfl (Rl_two l) (Rl_len l)
theorem Ril_two (l : List (Int × Int)) : ∀ x ∈ Ril l, x.length = 2 := fun x hx => by
 unfold Ril at hx
 obtain ⟨r, _, rfl⟩ := List.mem_map.1 hx
 rfl
theorem _root_.Go.Gev.Sto.rdORi {h0 h : Hs} {S : List Nat} {m : List Th} (k : Nat) {v : Value} {l : List (Int × Int)} (H : Sto h0 S h m) (hk : m[k]? = some (.osl v 80 2 true l.length (Ric l))) : Rd h v 2 (Ril l) :=
 H.rdOU k hk rfl (Ril_two l) (Ril_len l)
def CCountsR (R : RnK) : Prop := ∀ (l : List (Int × Int)) (v : Value) (h : Hs), l.length ≤ 100 → Rd h v 2 (Ril l) → WP (R 36 [v] h) fun v' h' => New h h' (OR' v' (cR l))
theorem countsR_ok {R : RnK} {N : Nat} {l : List (Int × Int)} {v : Value} {h : Hs} (hN : 1000000 ≤ N) (hb : l.length ≤ 100) (r : Rd h v 2 (Ril l)) : WP (r36 R N [v] h) fun v' h' => New h h' (OR' v' (cR l)) := by
 unfold r36
 obtain ⟨a, c, rfl⟩ := r.1.formN (Ril_len l)
 have H := Sto.enter1 r
 have l1 := Ril_len l
 repeat' (first | (with_reducible first | refine w_jn ?_ | refine w_unC ?_ | refine w_enK ?_))
 replace H := H.nilS 80 2
 refine lp_ind (Good := fun n (self : L4) => ∀ (i : Nat) (y1 y2 cur : Value) (w : Hs), i + n = l.length → Sto h [] w [OR' cur (cR (l.take i)), .rsl (.slice a l.length c) 2 (Ril l)] → WP (self (kI i) y1 y2 cur w) (fun v' h' => New h h' (OR' v' (cR l)))) (fun n self ih i y1 y2 cur w hi H1 => ?_) N l.length (by omega) 0 _ _ _ _ (by omega) H
 clear H
 have H := H1
 clear H1
 obtain ⟨ac, cc, rfl⟩ := (show OwnSl w cur 80 2 _ _ _ from H.ok _ (List.mem_of_getElem? (i := 0) rfl)).form
 have cl := cR_len (l.take i)
 rw [List.length_take] at cl
 repeat' (first | (with_reducible first | refine w_jn ?_ | refine w_cndT ?_ | refine w_cndF ?_ | refine w_lenV ?_) | ((with_reducible refine w_lss_NN (fun _ => ?_) (fun _ => ?_)) <;> first | (exfalso; omega) | skip))
 ·have ii : i < l.length := by omega
  obtain ⟨b, o, rfl⟩ := sl_some (H.rd 1 rfl) (by omega)
  have tk : cR (l.take (i + 1)) = cR (l.take i) ++ if ctP l[i] then [(l[i].1.toNat, l[i].2.toNat)] else [] := by
   rw [List.take_add_one, List.getElem?_eq_getElem ii]; exact cR_snoc _ _
  repeat' (first | (with_reducible refine w_idx (by omega) ?_) | (refine w_ldX 1 H rfl (Ril_get ii) rfl (by decide) rfl ?_) | (refine w_ldsX 1 H rfl (Ril_get ii) rfl rfl ?_) | (with_reducible first | refine w_jn ?_ | refine w_cndT ?_ | refine w_cndF ?_ | refine w_gTt ?_ | refine w_gTf ?_ | refine w_pickT ?_ | refine w_pickF ?_ | refine w_fieldA ?_) | ((with_reducible apply w_mkrow H) ; rfl; (clear H; intro u H hu; (try dsimp only [List.set_cons_zero, List.set_cons_succ, cellsL, List.toList_toArray, splice, ev, rep, List.cons_append, List.nil_append] at H))) | ((with_reducible first | refine w_leq_IN (fun _ => ?_) (fun _ => ?_) | refine w_geq_IN (fun _ => ?_) (fun _ => ?_)) <;> first | (exfalso; omega) | skip) | ((with_reducible refine w_add_NN ?_ ?_) ; omega))
  all_goals first
   | exact ih (n - 1) (by omega) (i + 1) _ _ _ _ (by omega) (by
    rw [tk, if_neg (fun q => by have := q.1; have := q.2.1; have := q.2.2.1; have := q.2.2.2; omega), List.append_nil]; exact H)
   | skip
  have q : ctP l[i] := ⟨by omega, by omega, by omega, by omega⟩
  rw [if_pos q] at tk
  obtain ⟨x, hx⟩ := Int.eq_ofNat_of_zero_le (show 0 ≤ l[i].1 by omega)
  obtain ⟨y, hy⟩ := Int.eq_ofNat_of_zero_le (show 0 ≤ l[i].2 by omega)
  rw [hx, hy, show ((x : Int)).toNat = x from rfl, show ((y : Int)).toNat = y from rfl] at tk
  rw [hx, hy] at H
  refine w_appendB 1 0 H rfl rfl rfl rfl (by omega) (by omega) fun v3 u4 H4 hn4 => ?_
  clear H
  have rc : Rc (cR (l.take (i + 1))) = Rc (cR (l.take i)) ++ [kI x, kI y] := by rw [tk]; exact Rc_snoc _ _
  have nfl : Th.osl v3 80 2 true ((cR (l.take i)).length + 1) (Rc (cR (l.take i)) ++ [kI x, kI y]) = OR' v3 (cR (l.take (i + 1))) := by
   rw [← rc]; show _ = Th.osl v3 _ 2 true (cR (l.take (i + 1))).length _; rw [tk, List.length_append]; rfl
  have H : Sto h [] u4 [OR' v3 (cR (l.take (i + 1))), .rsl (.slice (some ⟨b, o, none⟩) l.length c) 2 (Ril l)] := by rw [← nfl]; exact H4.tail
  repeat' (first | ((with_reducible refine w_add_NN ?_ ?_) ; omega))
  exact ih (n - 1) (by omega) (i + 1) _ _ _ _ (by omega) H
 ·obtain rfl : i = l.length := by omega
  have H2 : Sto h [] w [OR' (.slice ac (cR (l.take l.length)).length cc) (cR l), .rsl (.slice a l.length c) 2 (Ril l)] := by
   have e : cR (l.take l.length) = cR l := by rw [List.take_length]
   conv at H => rw [e]
   rw [e]; exact H
  exact w_clrO 0 H2 rfl fun v' h' n => n
def ndV (v : Value) : Value := .agg #[kI 0, kI 0, kI 0, v]
def CBlocks0 (R : RnK) : Prop := ∀ (l : List (Nat × Nat)) (v : Value) (h : Hs), Cnt l → l.length ≤ 100 → Rd h v 2 (Rl l) → R 35 [ndV v] h = some (.val (kI (sumR l)) h)
theorem blocks0_ok {R : RnK} {N : Nat} {l : List (Nat × Nat)} {v : Value} {h : Hs} (hN : 1000000 ≤ N) (hc : Cnt l) (hl : l.length ≤ 100) (r : Rd h v 2 (Rl l)) : r35 R N [ndV v] h = some (.val (kI (sumR l)) h) := by
 refine WP.eqn ?_
 obtain ⟨a, c, rfl⟩ := r.1.formN (Rl_len l)
 unfold r35 ndV
 have H := Sto.enter1 r
 have l1 := Rl_len l
 repeat' (first | (with_reducible first | refine w_jn ?_ | refine w_unC ?_ | refine w_enK ?_) | ((with_reducible refine w_boxA H ?_) ; (clear H; intro u H hu)))
 obtain ⟨m0, hm0, H0⟩ : ∃ m0, m0 = _ ∧ Sto h [] _ m0 := ⟨_, rfl, H⟩
 refine lp_ind (Good := fun n (self : L3) => ∀ (i : Nat) (y1 : Value) (w : Hs), i + n = l.length → Sto h [] w m0 → WP (self (kI i) y1 (kI (sumR (l.take i))) w) (fun v' h' => v' = kI (sumR l) ∧ h' = h)) (fun n self ih i y1 w hi H1 => ?_) N l.length (by omega) 0 _ _ (by omega) (by rw [hm0]; exact H)
 clear H H0
 have hm1 := hm0
 rw [hm0] at H1
 have H := H1
 clear H1
 have sm := cnt_sum (l := l.take i) fun r hr => hc r (List.mem_of_mem_take hr)
 rw [List.length_take] at sm
 repeat' (first | (with_reducible first | refine w_jn ?_ | refine w_cndT ?_ | refine w_cndF ?_ | refine w_fieldA ?_ | refine w_lenV ?_) | ((with_reducible refine w_lss_NN (fun _ => ?_) (fun _ => ?_)) <;> first | (exfalso; omega) | skip) | ((with_reducible apply w_load 0 H) ; rfl; rfl; rfl))
 ·have ii : i < l.length := by omega
  refine w_idxF 1 1 H rfl (Rl_get ii) rfl rfl ?_
  have rb := hc _ (List.getElem_mem ii)
  have tk : sumR (l.take (i + 1)) = sumR (l.take i) + l[i].2 := by rw [List.take_add_one, List.getElem?_eq_getElem ii]; exact sumR_snoc _ _
  repeat' (first | ((with_reducible refine w_add_NN ?_ ?_) ; omega))
  rw [← tk]
  exact ih (n - 1) (by omega) (i + 1) _ _ (by omega) (by rw [hm1]; exact H)
 ·rw [List.take_of_length_le (by omega)]
  exact w_clr H rfl ⟨rfl, rfl⟩
def CTotalR (R : RnK) : Prop := ∀ (l : List (Int × Int)) (v : Value) (h : Hs), l.length ≤ 100 → Rd h v 2 (Ril l) → R 11 [v] h = some (.val (kI (sumR (cR l))) h)
theorem totalR_ok {R : RnK} {N : Nat} (cc : CCountsR R) (cb : CBlocks0 R) {l : List (Int × Int)} {v : Value} {h : Hs} (hl : l.length ≤ 100) (r : Rd h v 2 (Ril l)) : r11 R N [v] h = some (.val (kI (sumR (cR l))) h) := by
 refine WP.eqn ?_
 unfold r11
 have H := Sto.enter1 r
 refine w_unC ?_
 refine w_enK ?_
 refine w_call (cc l v _ hl (H.rd 0 rfl)) fun v1 u1 n1 => ?_
 obtain ⟨a1, c1, rfl⟩ := n1.2.1.form
 replace H := H.call n1
 have cl := cR_len l
 repeat' (first | ((with_reducible apply w_build) ; rfl; (try dsimp only [splice, ev, cellsL, rep, List.cons_append, List.nil_append])))
 refine w_callE (cb (cR l) (.slice a1 (cR l).length c1) _ (cR_cnt l) (by omega) (H.rdOR' 0 rfl)) ?_
 exact w_clr H rfl ⟨rfl, rfl⟩
set_option linter.unusedSimpArgs false
theorem w_ldO {Q : Value → Hs → Prop} {h0 h : Hs} {S : List Nat} {m : List Th} (k : Nat) {hh : Hs} {id o n c e u : Nat} {fl : Bool} {L : List Value} {x : Value} {K : Value → An} (H : Sto h0 S h m) (hk : m[k]? = some (.osl (.slice (some ⟨id, 0, none⟩) n c) e u fl n L)) (hv : L[o]? = some x) (hp : hh.hp = h.hp) (w : WP (K x) Q) : WP (kLoad (.pointer (some ⟨id, o, none⟩)) hh K) Q := by
 obtain ⟨_, z⟩ := H.ok _ (List.mem_of_getElem? hk)
 have lo := (List.getElem?_eq_some_iff.1 hv).1
 rcases z with ⟨z, _⟩ | ⟨id', c', cs, sz, f, z, hc, hb, hf, hsz, hg⟩
 ·cases z
 ·injection z with z1 z2 z3
  injection z1 with z1
  injection z1 with z1
  subst z1
  rw [kLoad_ok (by rw [hp]; exact hb) ((hg o lo).trans hv)]; exact w
theorem own_some {h : Hs} {a : Option Addr} {n c e u : Nat} {fl : Bool} {L : List Value} (o : OwnSl h (.slice a n c) e u fl n L) (hn : 0 < n) : ∃ id, a = some ⟨id, 0, none⟩ := by
 rcases o.2 with ⟨z, q⟩ | ⟨id, c, cs, sz, f, z, _⟩
 ·omega
 ·injection z with z; exact ⟨id, z⟩
theorem Rc_at0 {l : List (Nat × Nat)} {i : Nat} (hi : i < l.length) : (Rc l)[0 + i * 2]? = some (kI (gD l i).1) ∧ (Rc l)[0 + i * 2 + 1]? = some (kI (gD l i).2) := by
 have f := flatten_get (Rl_two l) i
 have g := Rl_get hi
 have a := f 0 (by decide)
 have b := f 1 (by decide)
 rw [g] at a b
 rw [gD_get hi, Nat.zero_add]
 exact ⟨a, b⟩
def noTouch (l : List (Nat × Nat)) : Prop := ∀ i, i + 1 < l.length → (gD l i).1 + (gD l i).2 ≠ (gD l (i + 1)).1
def CMergeR (R : RnK) : Prop := ∀ (l : List (Nat × Nat)) (v : Value) (h : Hs), Cnt l → l.length ≤ 100 → noTouch l → Rd h v 2 (Rl l) → WP (R 14 [v] h) fun v' h' => New h h' (OR' v' l)
theorem cR_iR {l : List (Nat × Nat)} (h : Cnt l) : cR (iR l) = l := by
 induction l with
 | nil => rfl
 | cons r l ih =>
  have h1 := h r (List.mem_cons_self ..)
  unfold cR iR at ih ⊢
  rw [List.map_cons, List.filterMap_cons, ih fun q hq => h q (List.mem_cons_of_mem _ hq)]
  rw [if_pos (show ctP ((r.1 : Int), (r.2 : Int)) from ⟨by show 1 ≤ (r.2 : Int); omega, by show (r.2 : Int) ≤ _; omega, by show 0 ≤ (r.1 : Int); omega, by show (r.1 : Int) ≤ _; omega⟩)]
  rfl
theorem iR_len (l : List (Nat × Nat)) : (iR l).length = l.length := List.length_map _
theorem mergeR_ok {R : RnK} {N : Nat} (cc : CCountsR R) {l : List (Nat × Nat)} {v : Value} {h : Hs} (hN : 1000000 ≤ N) (hc : Cnt l) (hl : l.length ≤ 100) (nt : noTouch l) (r : Rd h v 2 (Rl l)) : WP (r14 R N [v] h) fun v' h' => New h h' (OR' v' l) := by
 unfold r14
 have H := Sto.enter1 r
 rw [Rl_iR] at r
 refine w_unC ?_
 refine w_enK ?_
 refine w_call (cc (iR l) v _ (by rw [iR_len]; exact hl) (Rd.lo r _)) fun v1 u1 n1 => ?_
 rw [cR_iR hc] at n1
 obtain ⟨a, c, rfl⟩ := n1.2.1.form
 have n1r := n1
 replace H := H.call n1
 have rd := H.rdOR' 0 rfl
 have l1 := Rl_len l
 have H2 : Sto h [] u1 [.rsl (.slice a l.length c) 2 (Rl l)] := (H.sel [] 2 rfl (by decide) (by decide)).cons _ rd.1 (fun b hb => ⟨rd.2 b hb, fun e => by cases e⟩) (fun s hs => by cases hs)
 clear H
 have H := H2
 clear H2
 replace H := H.nilS 80 2
 repeat' (first | (with_reducible refine w_jn ?_))
 refine lp_ind (Good := fun n (self : L5) => ∀ (i : Nat) (y1 cur y3 y4 : Value) (w : Hs), i + n = l.length → Sto h [] w [OR' cur (l.take i), .rsl (.slice a l.length c) 2 (Rl l)] → WP (self (kI i) y1 cur y3 y4 w) (fun v' h' => New h h' (OR' v' l))) (fun n self ih i y1 cur y3 y4 w hi H1 => ?_) N l.length (by omega) 0 _ _ _ _ _ (by omega) H
 clear H
 have H := H1
 clear H1
 have ll : (l.take i).length = i := by rw [List.length_take]; omega
 obtain ⟨ac, cc, rfl⟩ := (show OwnSl w cur 80 2 _ _ _ from H.ok _ (List.mem_of_getElem? (i := 0) rfl)).form
 have tk : ∀ (hi : i < l.length), Rc (l.take (i + 1)) = Rc (l.take i) ++ [kI l[i].1, kI l[i].2] := fun ii => by
  rw [List.take_add_one, List.getElem?_eq_getElem ii]; exact Rc_snoc _ _
 repeat' (first | (with_reducible first | refine w_jn ?_ | refine w_cndT ?_ | refine w_cndF ?_ | refine w_gTt ?_ | refine w_gTf ?_ | refine w_pickF ?_ | refine w_lenV ?_ | refine w_blind ?_) | ((with_reducible first | refine w_lss_NN (fun _ => ?_) (fun _ => ?_) | refine w_gtr_NN (fun _ => ?_) (fun _ => ?_)) <;> first | (exfalso; omega) | skip) | ((with_reducible refine w_sub_NN ?_ ?_ ?_) ; omega; omega))
 ·have ii : i < l.length := by omega
  obtain ⟨b, o, rfl⟩ := sl_some (H.rd 1 rfl) (by omega)
  obtain ⟨id, rfl⟩ := own_some (H.ok _ (List.mem_of_getElem? (i := 0) rfl)) (by omega)
  have rb := hc _ (List.getElem_mem ii)
  have g0 := Rc_at0 (l := l.take i) (i := (l.take i).length - 1) (by omega)
  have e0 : gD (l.take i) ((l.take i).length - 1) = gD l (i - 1) := by
   rw [ll]; unfold gD; rw [List.getD_eq_getElem?_getD, List.getD_eq_getElem?_getD, List.getElem?_take_of_lt (by omega)]
  rw [e0] at g0
  have rb2 := hc _ (gD_mem (l := l) (i := i - 1) (by omega))
  have nti := nt (i - 1) (by omega)
  rw [show i - 1 + 1 = i by omega, gD_get ii] at nti
  repeat' (first | (with_reducible refine w_idx (by omega) ?_) | (refine w_ldX 1 H rfl (Rl_get ii) rfl (by decide) rfl ?_) | (refine w_ldsX 1 H rfl (Rl_get ii) rfl rfl ?_) | (refine w_ldO 0 H rfl g0.1 rfl ?_) | (refine w_ldO 0 H rfl g0.2 rfl ?_) | (with_reducible first | refine w_jn ?_ | refine w_cndF ?_ | refine w_gTt ?_ | refine w_pickT ?_ | refine w_fieldA ?_ | refine w_blind ?_) | ((with_reducible apply w_mkrow H) ; rfl; (clear H; intro u H hu; (try dsimp only [List.set_cons_zero, List.set_cons_succ, cellsL, List.toList_toArray, splice, ev, rep, List.cons_append, List.nil_append] at H))) | ((with_reducible refine w_eql_NN (fun _ => ?_) (fun _ => ?_)) <;> first | (exfalso; omega) | skip) | ((with_reducible refine w_add_NN ?_ ?_) ; omega) | ((with_reducible refine w_sub_NN ?_ ?_ ?_) ; omega; omega))
  refine w_appendB 1 0 H rfl rfl rfl rfl (by omega) (by omega) fun v3 u4 H4 hn4 => ?_
  clear H
  have nfl : Th.osl v3 80 2 true ((l.take i).length + 1) (Rc (l.take i) ++ [kI l[i].1, kI l[i].2]) = OR' v3 (l.take (i + 1)) := by
   rw [← tk ii]; show _ = Th.osl v3 _ 2 true (l.take (i + 1)).length _; rw [ll, List.length_take, Nat.min_eq_left (by omega)]
  have H : Sto h [] u4 [OR' v3 (l.take (i + 1)), .rsl (.slice (some ⟨b, o, none⟩) l.length c) 2 (Rl l)] := by rw [← nfl]; exact H4.tail
  repeat' (first | ((with_reducible refine w_add_NN ?_ ?_) ; omega))
  exact ih (n - 1) (by omega) (i + 1) _ _ _ _ _ (by omega) H
 ·have ii : i < l.length := by omega
  obtain ⟨b, o, rfl⟩ := sl_some (H.rd 1 rfl) (by omega)
  have rb := hc _ (List.getElem_mem ii)
  repeat' (first | (with_reducible refine w_idx (by omega) ?_) | (refine w_ldsX 1 H rfl (Rl_get ii) rfl rfl ?_) | ((with_reducible apply w_mkrow H) ; rfl; (clear H; intro u H hu; (try dsimp only [List.set_cons_zero, List.set_cons_succ, cellsL, List.toList_toArray, splice, ev, rep, List.cons_append, List.nil_append] at H))))
  refine w_appendB 1 0 H rfl rfl rfl rfl (by omega) (by omega) fun v3 u4 H4 hn4 => ?_
  clear H
  have nfl : Th.osl v3 80 2 true ((l.take i).length + 1) (Rc (l.take i) ++ [kI l[i].1, kI l[i].2]) = OR' v3 (l.take (i + 1)) := by
   rw [← tk ii]; show _ = Th.osl v3 _ 2 true (l.take (i + 1)).length _; rw [ll, List.length_take, Nat.min_eq_left (by omega)]
  have H : Sto h [] u4 [OR' v3 (l.take (i + 1)), .rsl (.slice (some ⟨b, o, none⟩) l.length c) 2 (Rl l)] := by rw [← nfl]; exact H4.tail
  repeat' (first | ((with_reducible refine w_add_NN ?_ ?_) ; omega))
  exact ih (n - 1) (by omega) (i + 1) _ _ _ _ _ (by omega) H
 ·obtain rfl : i = l.length := by omega
  have H2 : Sto h [] w [OR' (.slice ac (l.take l.length).length cc) l, .rsl (.slice a l.length c) 2 (Rl l)] := by
   have e : l.take l.length = l := List.take_length
   conv at H => rw [e]
   rw [e]; exact H
  exact w_clrO 0 H2 rfl fun v' h' n => n
def CApartR (R : RnK) : Prop := ∀ (l : List (Nat × Nat)) (v : Value) (h : Hs), Cnt l → l.length ≤ 100 → djL l → Rd h v 2 (Rl l) → R 15 [v] h = some (.val (.bool true) h)
theorem apartR_ok {R : RnK} {N : Nat} {l : List (Nat × Nat)} {v : Value} {h : Hs} (hN : 1000000 ≤ N) (hc : Cnt l) (hl : l.length ≤ 100) (d : djL l) (r : Rd h v 2 (Rl l)) : r15 R N [v] h = some (.val (.bool true) h) := by
 refine WP.eqn ?_
 unfold r15
 have H := Sto.enter1 r
 obtain ⟨a, c, rfl⟩ := r.1.formN (Rl_len l)
 have l1 := Rl_len l
 repeat' (first | (with_reducible first | refine w_jn ?_ | refine w_unC ?_ | refine w_enK ?_))
 refine lp_ind (Good := fun n (self : L6) => ∀ (i : Nat) (y1 y2 y3 y4 y5 : Value) (w : Hs), i + n = l.length → Sto h [] w [.rsl (.slice a l.length c) 2 (Rl l)] → WP (self (kI i) y1 y2 y3 y4 y5 w) (fun v h' => v = .bool true ∧ h' = h)) (fun n self ih i y1 y2 y3 y4 y5 w hi H1 => ?_) N l.length (by omega) 0 _ _ _ _ _ _ (by omega) H
 clear H
 have H := H1
 clear H1
 repeat' (first | (with_reducible first | refine w_jn ?_ | refine w_cndT ?_ | refine w_cndF ?_ | refine w_lenV ?_) | ((with_reducible refine w_lss_NN (fun _ => ?_) (fun _ => ?_)) <;> first | (exfalso; omega) | skip))
 ·have ii : i < l.length := by omega
  have rb := hc _ (List.getElem_mem ii)
  obtain ⟨b, o, rfl⟩ := sl_some (H.rd 0 rfl) (by omega)
  refine lp_ind (Good := fun n2 (self2 : L4) => ∀ (j : Nat) (z1 z2 z3 : Value) (w2 : Hs), j + n2 = i → Sto h [] w2 [.rsl (.slice (some ⟨b, o, none⟩) l.length c) 2 (Rl l)] → WP (self2 (kI j) z1 z2 z3 w2) (fun v h' => v = .bool true ∧ h' = h)) (fun n2 self2 ih2 j z1 z2 z3 w2 hj H2 => ?_) N i (by omega) 0 _ _ _ _ (by omega) H
  clear H
  have H := H2
  clear H2
  repeat' (first | (with_reducible first | refine w_jn ?_ | refine w_cndT ?_ | refine w_cndF ?_) | ((with_reducible refine w_lss_NN (fun _ => ?_) (fun _ => ?_)) <;> first | (exfalso; omega) | skip) | ((with_reducible refine w_add_NN ?_ ?_) ; omega))
  ·have jj : j < l.length := by omega
   have rb2 := hc l[j] (List.getElem_mem _)
   have dd := List.pairwise_iff_getElem.1 d j i jj ii (by omega)
   unfold dj at dd
   repeat' (first | (with_reducible refine w_idx (by omega) ?_) | (refine w_ldX 0 H rfl (Rl_get ii) rfl (by decide) rfl ?_) | (refine w_ldX 0 H rfl (Rl_get jj) rfl (by decide) rfl ?_) | (with_reducible first | refine w_jn ?_ | refine w_cndF ?_ | refine w_gTt ?_ | refine w_gTf ?_ | refine w_pickT ?_ | refine w_pickF ?_ | refine w_fieldA ?_ | refine w_blind ?_) | ((with_reducible refine w_lss_NN (fun _ => ?_) (fun _ => ?_)) <;> first | (exfalso; omega) | skip) | ((with_reducible refine w_add_NN ?_ ?_) ; omega))
   all_goals exact ih2 (n2 - 1) (by omega) (j + 1) _ _ _ _ (by omega) H
  ·exact ih (n - 1) (by omega) (i + 1) _ _ _ _ _ _ (by omega) H
 ·exact w_clr H rfl ⟨rfl, rfl⟩
def CAlike (R : RnK) : Prop := ∀ (l : List (Nat × Nat)) (v w : Value) (h : Hs), l.length ≤ 100 → Rd h v 2 (Rl l) → Rd h w 2 (Rl l) → R 13 [v, w] h = some (.val (.bool true) h)
theorem alike_ok {R : RnK} {N : Nat} {l : List (Nat × Nat)} {v w : Value} {h : Hs} (hN : 1000000 ≤ N) (hl : l.length ≤ 100) (r : Rd h v 2 (Rl l)) (r2 : Rd h w 2 (Rl l)) : r13 R N [v, w] h = some (.val (.bool true) h) := by
 refine WP.eqn ?_
 unfold r13
 have H := Sto.enter2 r r2
 obtain ⟨a, c, rfl⟩ := r.1.formN (Rl_len l)
 obtain ⟨a2, c2, rfl⟩ := r2.1.formN (Rl_len l)
 have l1 := Rl_len l
 repeat' (first | (with_reducible first | refine w_jn ?_ | refine w_cndF ?_ | refine w_unC ?_ | refine w_enK ?_ | refine w_lenV ?_) | ((with_reducible refine w_neq_NN (fun _ => ?_) (fun _ => ?_)) <;> first | (exfalso; omega) | skip))
 refine lp_ind (Good := fun n (self : L4) => ∀ (i : Nat) (y1 y2 y3 : Value) (w : Hs), i + n = l.length → Sto h [] w [.rsl (.slice a l.length c) 2 (Rl l), .rsl (.slice a2 l.length c2) 2 (Rl l)] → WP (self (kI i) y1 y2 y3 w) (fun v h' => v = .bool true ∧ h' = h)) (fun n self ih i y1 y2 y3 w hi H1 => ?_) N l.length (by omega) 0 _ _ _ _ (by omega) H
 clear H
 have H := H1
 clear H1
 repeat' (first | (with_reducible first | refine w_jn ?_ | refine w_cndT ?_ | refine w_cndF ?_ | refine w_lenV ?_) | ((with_reducible refine w_lss_NN (fun _ => ?_) (fun _ => ?_)) <;> first | (exfalso; omega) | skip))
 ·have ii : i < l.length := by omega
  obtain ⟨b, o, rfl⟩ := sl_some (H.rd 0 rfl) (by omega)
  obtain ⟨b2, o2, rfl⟩ := sl_some (H.rd 1 rfl) (by omega)
  refine w_idx (by omega) ?_
  refine w_ldsX 0 H rfl (Rl_get ii) rfl rfl ?_
  refine w_idx (by omega) ?_
  refine w_ldsX 1 H rfl (Rl_get ii) rfl rfl ?_
  refine w_ob (v := .bool false) ?_ ?_
  ·show boolO true (eqCells [.i, .i] [kI l[i].1, kI l[i].2] [kI l[i].1, kI l[i].2]) = _
   rw [eqc_cons, eqc_cons, if_pos rfl, if_pos rfl]; rfl
  repeat' (first | (with_reducible first | refine w_jn ?_ | refine w_cndF ?_) | ((with_reducible refine w_add_NN ?_ ?_) ; omega))
  exact ih (n - 1) (by omega) (i + 1) _ _ _ _ (by omega) H
 ·exact w_clr H rfl ⟨rfl, rfl⟩
set_option linter.unusedSimpArgs false
def gr : List Nat → Nat → Nat → Nat → Option Nat
 | [], _, _, _ => none
 | x :: S, n, k, most => if k = most then none else if n ≤ x then some (k + 1) else gr S (n - x) (k + 1) most
def falls (S : List Nat) : Prop := S.Pairwise fun a b => b ≤ a
def nz (l : List Nat) : List Nat := l.filter fun x => x != 0
theorem nz_pick {l : List Nat} {i x : Nat} (hi : l[i]? = some x) (hx : x ≠ 0) : (x :: nz (l.set i 0)).Perm (nz l) := by
 obtain ⟨hl, e⟩ := List.getElem?_eq_some_iff.1 hi
 have s : l = l.take i ++ x :: l.drop (i + 1) := by rw [← e, ← List.drop_eq_getElem_cons hl, List.take_append_drop]
 have tl : (l.take i).length = i := by rw [List.length_take]; omega
 have s2 : l.set i 0 = l.take i ++ 0 :: l.drop (i + 1) := by
  conv => lhs; rw [s]
  rw [List.set_append_right _ _ (by omega), tl, Nat.sub_self]; rfl
 rw [s2]
 conv => rhs; rw [s]
 unfold nz
 rw [List.filter_append, List.filter_append, List.filter_cons_of_neg (a := 0) (by simp), List.filter_cons_of_pos (a := x) (by simpa using hx)]
 exact List.perm_middle.symm
theorem nz_mem {l : List Nat} {x : Nat} : x ∈ nz l ↔ x ∈ l ∧ x ≠ 0 := by unfold nz; rw [List.mem_filter]; simp
def LgQ (S : List Nat) (n most : Nat) (v : Value) : Prop := v = if n = 0 then .tuple #[kI 0, .bool true] else match gr S n 0 most with
 | some k => .tuple #[kI k, .bool true]
 | none => .tuple #[kI 0, .bool false]
def CLongest (R : RnK) : Prop := ∀ (B : List Nat) (a e n most : Nat) (S : List Nat) (v : Value) (h : Hs), Small B → B.length < 10000 → a ≤ e → e ≤ 1000 → n ≤ 9223372036854775807 → most ≤ 9223372036854775807 → falls S → S.Perm ((rowsF (hasBit B) a e).map fun r => r.2) → Rd h v 1 (Wl B) →
 WP (R 10 [.agg #[v], kI a, kI e, kI n, kI most] h) fun r h' => h' = h ∧ LgQ S n most r
theorem nz_head {l S : List Nat} {b : Nat} (hS : falls S) (hp : S.Perm (nz l)) (hb : b < l.length) (hm : ∀ t, t < l.length → l.getD t 0 ≤ l.getD b 0) (h0 : l.getD b 0 ≠ 0) : ∃ S', S = l.getD b 0 :: S' ∧ falls S' ∧ S'.Perm (nz (l.set b 0)) := by
 have gb : l[b]? = some (l.getD b 0) := by rw [List.getD_eq_getElem?_getD, List.getElem?_eq_getElem hb]; rfl
 have pk := nz_pick gb h0
 cases S with
 | nil => have := (hp.trans pk.symm).length_eq; simp at this
 | cons x S' =>
  have q := List.pairwise_cons.1 hS
  have hx := nz_mem.1 (hp.mem_iff.1 (List.mem_cons_self ..))
  obtain ⟨t, ht, e⟩ := List.getElem_of_mem hx.1
  have h1 := hm t ht
  rw [List.getD_eq_getElem?_getD, List.getElem?_eq_getElem ht, Option.getD_some, e] at h1
  have h2 : l.getD b 0 ∈ x :: S' := hp.mem_iff.2 (nz_mem.2 ⟨List.mem_of_getElem? gb, h0⟩)
  have h3 : l.getD b 0 ≤ x := by
   rcases List.mem_cons.1 h2 with z | z
   ·omega
   ·exact q.1 _ z
  have ex : x = l.getD b 0 := by omega
  subst ex
  exact ⟨S', rfl, q.2, List.Perm.cons_inv (hp.trans pk.symm)⟩
theorem nz_none {l S : List Nat} (hp : S.Perm (nz l)) (h : ∀ t, t < l.length → l.getD t 0 = 0) : S = [] := by
 have : nz l = [] := by
  unfold nz
  rw [List.filter_eq_nil_iff]
  intro x hx
  obtain ⟨t, ht, e⟩ := List.getElem_of_mem hx
  have := h t ht
  rw [List.getD_eq_getElem?_getD, List.getElem?_eq_getElem ht, Option.getD_some, e] at this
  simp [this]
 rw [this] at hp
 exact hp.eq_nil
def Nc (l : List Nat) : List Value := l.map fun n => kI n
theorem Nc_len (l : List Nat) : (Nc l).length = l.length := List.length_map _
theorem Nc_get {l : List Nat} {i : Nat} (hi : i < l.length) : (Nc l)[i]? = some (kI l[i]) := by unfold Nc; rw [List.getElem?_map, List.getElem?_eq_getElem hi]; rfl
theorem Nc_at {l : List Nat} {i : Nat} (hi : i < l.length) : (Nc l)[0 + i * 1]? = some (kI (l.getD i 0)) := by rw [Nat.zero_add, Nat.mul_one, Nc_get hi, List.getD_eq_getElem?_getD, List.getElem?_eq_getElem hi]; rfl
theorem Nc_set (l : List Nat) (i n : Nat) : (Nc l).set i (kI n) = Nc (l.set i n) := by unfold Nc; rw [List.map_set]
theorem Nc_snoc (l : List Nat) (n : Nat) : Nc (l ++ [n]) = Nc l ++ [kI n] := List.map_append
theorem longest_ok {R : RnK} {N : Nat} (ch : CHas R) {B : List Nat} {a e n most : Nat} {S : List Nat} {v : Value} {h : Hs} (hN : 1000000 ≤ N) (sm : Small B) (hb : B.length < 10000) (ae : a ≤ e) (he : e ≤ 1000) (hn : n ≤ 9223372036854775807) (hm : most ≤ 9223372036854775807) (hS : falls S) (hp : S.Perm ((rowsF (hasBit B) a e).map fun r => r.2)) (r : Rd h v 1 (Wl B)) :
 WP (r10 R N [.agg #[v], kI a, kI e, kI n, kI most] h) fun r h' => h' = h ∧ LgQ S n most r := by
 unfold r10
 have H := Sto.enter1 r
 obtain ⟨ad, c, rfl⟩ := r.1.formN (Wl_len B)
 have l1 := Wl_len B
 repeat' (first | (with_reducible first | refine w_jn ?_ | refine w_unC ?_ | refine w_enK ?_) | ((with_reducible refine w_boxA H ?_) ; (clear H; intro u H hu)))
 replace H := H.nilS 3 1
 refine lp_ind (Good := fun k (self : L6) => ∀ (i row : Nat) (out : List Nat) (y1 y2 y3 cur : Value) (w : Hs), i + k = e + 1 → row ≤ i → out.length + row ≤ i → (i ≤ e → out ++ (scan (hasBit B) (e - i) i row).map (fun r => r.2) = (rowsF (hasBit B) a e).map (fun r => r.2)) → (i = e + 1 → out = (rowsF (hasBit B) a e).map (fun r => r.2)) → Sto h [] w [.osl cur 3 1 true out.length (Nc out), .blk h.nx (.row 33 0 true false [.slice ad B.length c]), .rsl (.slice ad B.length c) 1 (Wl B)] → WP (self (kI i) y1 y2 (kI row) y3 cur w) (fun r h' => h' = h ∧ LgQ S n most r)) (fun k self ih i row out y1 y2 y3 cur w hi hr ho hq hq2 H1 => ?_) N (e + 1 - a) (by omega) a 0 [] _ _ _ _ _ (by omega) (by omega) (by simp) (fun _ => rfl) (fun z => by omega) (H.unfl 1 rfl)
 clear H
 have H := H1
 clear H1
 obtain ⟨ac, cc, rfl⟩ := (show OwnSl w cur 3 1 _ _ _ from H.ok _ (List.mem_of_getElem? (i := 0) rfl)).form
 have app : ∀ (y1 y2 y3 v3 : Value) (u : Hs), i ≤ e → 0 < row → (i < e → hasBit B i = true) → Sto h [] u [.osl v3 3 1 true (out.length + 1) (Nc out ++ [kI row]), .blk h.nx (.row 33 0 true false [.slice ad B.length c]), .rsl (.slice ad B.length c) 1 (Wl B)] → WP (self (kI (i + 1)) y1 y2 (kI 0) y3 v3 u) (fun r h' => h' = h ∧ LgQ S n most r) := fun y1 y2 y3 v3 u h1 h2 h3 H1 => by
  have q := hq h1
  rw [← Nc_snoc] at H1
  refine ih (k - 1) (by omega) (i + 1) 0 (out ++ [row]) _ _ _ _ _ (by omega) (by omega) (by rw [List.length_append, List.length_singleton]; omega) (fun h4 => ?_) (fun h4 => ?_) (by rw [List.length_append]; exact H1)
  ·rw [← q, show e - i = e - (i + 1) + 1 by omega, show scan (hasBit B) (e - (i + 1) + 1) i row = if hasBit B i then (if 0 < row then (i - row, row) :: scan (hasBit B) (e - (i + 1)) (i + 1) 0 else scan (hasBit B) (e - (i + 1)) (i + 1) 0) else scan (hasBit B) (e - (i + 1)) (i + 1) (row + 1) from rfl, if_pos (h3 (by omega)), if_pos h2, List.map_cons, List.append_assoc]
   rfl
  ·rw [← q, show e - i = 0 by omega, show scan (hasBit B) 0 i row = if 0 < row then [(i - row, row)] else [] from rfl, if_pos h2]
   rfl
 have nap : ∀ (y1 y2 y3 : Value) (u : Hs), i ≤ e → row = 0 → (i < e → hasBit B i = true) → Sto h [] u [.osl (.slice ac out.length cc) 3 1 true out.length (Nc out), .blk h.nx (.row 33 0 true false [.slice ad B.length c]), .rsl (.slice ad B.length c) 1 (Wl B)] → WP (self (kI (i + 1)) y1 y2 (kI 0) y3 (.slice ac out.length cc) u) (fun r h' => h' = h ∧ LgQ S n most r) := fun y1 y2 y3 u h1 h2 h3 H1 => by
  have q := hq h1
  subst h2
  refine ih (k - 1) (by omega) (i + 1) 0 out _ _ _ _ _ (by omega) (by omega) (by omega) (fun h4 => ?_) (fun h4 => ?_) H1
  ·rw [← q, show e - i = e - (i + 1) + 1 by omega, show scan (hasBit B) (e - (i + 1) + 1) i 0 = if hasBit B i then (if 0 < 0 then (i - 0, 0) :: scan (hasBit B) (e - (i + 1)) (i + 1) 0 else scan (hasBit B) (e - (i + 1)) (i + 1) 0) else scan (hasBit B) (e - (i + 1)) (i + 1) (0 + 1) from rfl, if_pos (h3 (by omega)), if_neg (by omega)]
  ·rw [← q, show e - i = 0 by omega, show scan (hasBit B) 0 i 0 = if 0 < 0 then [(i - 0, 0)] else [] from rfl, if_neg (by omega), List.map_nil, List.append_nil]
 repeat' (first | (with_reducible first | refine w_jn ?_ | refine w_cndT ?_ | refine w_cndF ?_ | refine w_gTt ?_ | refine w_gTf ?_ | refine w_pickF ?_) | ((with_reducible apply w_mkrow H) ; rfl; (clear H; intro u H hu; (try dsimp only [List.set_cons_zero, List.set_cons_succ, cellsL, List.toList_toArray, splice, ev, rep, List.cons_append, List.nil_append] at H))) | ((with_reducible first | refine w_lss_NN (fun _ => ?_) (fun _ => ?_) | refine w_leq_NN (fun _ => ?_) (fun _ => ?_) | refine w_gtr_NN (fun _ => ?_) (fun _ => ?_)) <;> first | (exfalso; omega) | skip) | ((with_reducible refine w_add_NN ?_ ?_) ; omega) | ((with_reducible apply w_loadsF 1 H) ; rfl; rfl; rfl))
 ·refine w_callE (ch B i _ _ sm (by omega) (by omega) (H.rd 2 rfl)) ?_
  cases hbi : hasBit B i with
  | true =>
   repeat' (first | (with_reducible first | refine w_jn ?_ | refine w_cndT ?_ | refine w_cndF ?_ | refine w_gTt ?_ | refine w_pickT ?_ | refine w_notT ?_) | ((with_reducible apply w_mkrow H) ; rfl; (clear H; intro u H hu; (try dsimp only [List.set_cons_zero, List.set_cons_succ, cellsL, List.toList_toArray, splice, ev, rep, List.cons_append, List.nil_append] at H))) | ((with_reducible refine w_gtr_NN (fun _ => ?_) (fun _ => ?_)) <;> first | (exfalso; omega) | skip) | ((with_reducible refine w_add_NN ?_ ?_) ; omega))
   ·refine w_appendB 1 0 H rfl rfl rfl rfl (by omega) (by omega) fun v3 u4 H4 hn4 => ?_
    repeat' (first | ((with_reducible refine w_add_NN ?_ ?_) ; omega))
    exact app _ _ _ _ _ (by omega) (by omega) (fun _ => hbi) H4.tail
   ·exact nap _ _ _ _ (by omega) (by omega) (fun _ => hbi) H
  | false =>
   repeat' (first | (with_reducible first | refine w_jn ?_ | refine w_cndT ?_ | refine w_gTt ?_ | refine w_pickT ?_ | refine w_notF ?_) | ((with_reducible refine w_add_NN ?_ ?_) ; omega))
   refine ih (k - 1) (by omega) (i + 1) (row + 1) out _ _ _ _ _ (by omega) (by omega) (by omega) (fun h4 => ?_) (fun h4 => by omega) H
   have q := hq (by omega)
   rw [← q, show e - i = e - (i + 1) + 1 by omega, show scan (hasBit B) (e - (i + 1) + 1) i row = if hasBit B i then (if 0 < row then (i - row, row) :: scan (hasBit B) (e - (i + 1)) (i + 1) 0 else scan (hasBit B) (e - (i + 1)) (i + 1) 0) else scan (hasBit B) (e - (i + 1)) (i + 1) (row + 1) from rfl, if_neg (by rw [hbi]; decide)]
 ·refine w_appendB 1 0 H rfl rfl rfl rfl (by omega) (by omega) fun v3 u4 H4 hn4 => ?_
  repeat' (first | ((with_reducible refine w_add_NN ?_ ?_) ; omega))
  exact app _ _ _ _ _ (by omega) (by omega) (fun _ => by omega) H4.tail
 ·exact nap _ _ _ _ (by omega) (by omega) (fun _ => by omega) H
 ·have o0 := hq2 (by omega)
  rw [← o0] at hp
  have oe : ∀ x ∈ out, x ≠ 0 ∧ x ≤ 1000 := fun x hx => by
   rw [o0] at hx
   obtain ⟨r, hr, rfl⟩ := List.mem_map.1 hx
   have := rowsF_row1 (f := hasBit B) ae r hr
   have h1 := this.ln
   have h2 := this.hi
   omega
  have pz : S.Perm (nz out) := by
   have : nz out = out := by unfold nz; rw [List.filter_eq_self]; intro x hx; have := (oe x hx).1; simpa using this
   rw [this]; exact hp
  have ol : out.length ≤ 2000 := by omega
  have ob : ∀ x ∈ out, x ≤ 1000 := fun x hx => (oe x hx).2
  have sl : S.length ≤ out.length := by rw [hp.length_eq]; exact Nat.le_refl _
  clear hq hq2 oe o0 ih app nap hp ho hr
  by_cases n0 : n = 0
  ·subst n0
   obtain ⟨N, rfl⟩ : ∃ q, N = q + 1 := ⟨N - 1, by omega⟩
   rw [lpT_succ]
   repeat' (first | (with_reducible first | refine w_jn ?_ | refine w_cndF ?_) | ((with_reducible refine w_gtr_NN (fun _ => ?_) (fun _ => ?_)) <;> first | (exfalso; omega) | skip))
   exact w_clr H rfl ⟨rfl, (if_pos rfl).symm⟩
  have npos : 0 < n := by omega
  refine lp_ind (Good := fun m (self2 : L11) => ∀ (n' j : Nat) (Rw S' : List Nat) (y1 y2 y3 y4 y5 y6 y7 y8 y9 : Value) (w2 : Hs), 0 < n' → n' ≤ 9223372036854775807 → S'.length < m → j + S'.length ≤ 5000 → Rw.length = out.length → (∀ x ∈ Rw, x ≤ 1000) → falls S' → S'.Perm (nz Rw) → gr S' n' j most = gr S n 0 most → Sto h [] w2 [.osl (.slice ac out.length cc) 3 1 true out.length (Nc Rw), .blk h.nx (.row 33 0 true false [.slice ad B.length c]), .rsl (.slice ad B.length c) 1 (Wl B)] → WP (self2 (kI n') y1 y2 y3 y4 y5 (kI j) y6 y7 y8 y9 w2) (fun r h' => h' = h ∧ LgQ S n most r)) (fun m self2 ih2 n' j Rw S' y1 y2 y3 y4 y5 y6 y7 y8 y9 w2 np hn' hm2 hj hRl hRb hS' hp' hg H2 => ?_) N (S.length + 1) (by omega) n 0 out S _ _ _ _ _ _ _ _ _ _ npos hn (by omega) (by omega) rfl ob hS pz rfl H
  clear H
  have H := H2
  clear H2
  have lgN : gr S' n' j most = none → LgQ S n most (.tuple #[kI 0, .bool false]) := fun z => by
   unfold LgQ; rw [if_neg n0, ← hg, z]
  have lgS : ∀ x, gr S' n' j most = some x → LgQ S n most (.tuple #[kI x, .bool true]) := fun x z => by
   unfold LgQ; rw [if_neg n0, ← hg, z]
  repeat' (first | (with_reducible first | refine w_jn ?_ | refine w_cndT ?_) | ((with_reducible refine w_gtr_NN (fun _ => ?_) (fun _ => ?_)) <;> first | (exfalso; omega) | skip))
  refine lp_ind (Good := fun m3 (self3 : L4) => ∀ (t : Nat) (z1 z2 bv : Value) (w3 : Hs), t + m3 = Rw.length → ((t = 0 ∧ bv = .int .i64 (-1)) ∨ ∃ b, bv = kI b ∧ b < t ∧ ∀ s, s < t → Rw.getD s 0 ≤ Rw.getD b 0) → Sto h [] w3 [.osl (.slice ac out.length cc) 3 1 true out.length (Nc Rw), .blk h.nx (.row 33 0 true false [.slice ad B.length c]), .rsl (.slice ad B.length c) 1 (Wl B)] → WP (self3 (kI t) z1 bv z2 w3) (fun r h' => h' = h ∧ LgQ S n most r)) (fun m3 self3 ih3 t z1 z2 bv w3 ht hbv H3 => ?_) N Rw.length (by omega) 0 _ _ (.int .i64 (-1)) _ (by omega) (.inl ⟨rfl, rfl⟩) H
  clear H
  have H := H3
  clear H3
  repeat' (first | (with_reducible first | refine w_jn ?_ | refine w_cndT ?_ | refine w_cndF ?_ | refine w_lenV ?_) | ((with_reducible refine w_lss_NN (fun _ => ?_) (fun _ => ?_)) <;> first | (exfalso; omega) | skip))
  ·have tt : t < Rw.length := by omega
   rcases hbv with ⟨rfl, rfl⟩ | ⟨b, rfl, hb1, hb2⟩
   ·repeat' (first | (with_reducible first | refine w_jn ?_ | refine w_cndT ?_ | refine w_gFt ?_ | refine w_pickT ?_ | refine w_blind ?_) | ((with_reducible refine w_lss_IN (fun _ => ?_) (fun _ => ?_)) <;> first | (exfalso; omega) | skip) | ((with_reducible refine w_add_NN ?_ ?_) ; omega))
    exact ih3 (m3 - 1) (by omega) 1 _ _ (kI 0) _ (by omega) (.inr ⟨0, rfl, by omega, fun s hs => by rw [show s = 0 by omega]; exact Nat.le_refl _⟩) H
   ·obtain ⟨id, rfl⟩ := own_some (H.ok _ (List.mem_of_getElem? (i := 0) rfl)) (by omega)
    have g1 := Nc_at tt
    have g2 := Nc_at (show b < Rw.length by omega)
    repeat' (first | (with_reducible refine w_idx (by omega) ?_) | (refine w_ldO 0 H rfl g1 rfl ?_) | (refine w_ldO 0 H rfl g2 rfl ?_) | (with_reducible first | refine w_jn ?_ | refine w_cndT ?_ | refine w_cndF ?_ | refine w_gFf ?_ | refine w_pickF ?_ | refine w_blind ?_) | ((with_reducible first | refine w_lss_NN (fun _ => ?_) (fun _ => ?_) | refine w_gtr_NN (fun _ => ?_) (fun _ => ?_)) <;> first | (exfalso; omega) | skip) | ((with_reducible refine w_add_NN ?_ ?_) ; omega))
    ·exact ih3 (m3 - 1) (by omega) (t + 1) _ _ (kI t) _ (by omega) (.inr ⟨t, rfl, by omega, fun s hs => by
      by_cases e : s = t
      ·rw [e]; exact Nat.le_refl _
      ·have := hb2 s (by omega); omega⟩) H
    ·exact ih3 (m3 - 1) (by omega) (t + 1) _ _ (kI b) _ (by omega) (.inr ⟨b, rfl, by omega, fun s hs => by
      by_cases e : s = t
      ·rw [e]; omega
      ·exact hb2 s (by omega)⟩) H
  ·obtain rfl : t = Rw.length := by omega
   dsimp only
   rcases hbv with ⟨e0, rfl⟩ | ⟨b, rfl, hb1, hb2⟩
   ·repeat' (first | (with_reducible first | refine w_jn ?_ | refine w_cndT ?_ | refine w_gFt ?_ | refine w_pickT ?_) | ((with_reducible refine w_lss_IN (fun _ => ?_) (fun _ => ?_)) <;> first | (exfalso; omega) | skip))
    have := nz_none hp' (fun t ht => by omega)
    subst this
    exact w_clr H rfl ⟨rfl, lgN rfl⟩
   ·obtain ⟨id, rfl⟩ := own_some (H.ok _ (List.mem_of_getElem? (i := 0) rfl)) (by omega)
    have g2 := Nc_at hb1
    have gb : Rw.getD b 0 ≤ 1000 := by
     rw [List.getD_eq_getElem?_getD, List.getElem?_eq_getElem hb1]; exact hRb _ (List.getElem_mem hb1)
    repeat' (first | (refine w_storeO 0 H rfl (by rw [Nc_len]; omega) rfl fun u5 H5 hu5 => ?_) | (with_reducible refine w_idx (by omega) ?_) | (refine w_ldO 0 H rfl g2 rfl ?_) | (with_reducible first | refine w_jn ?_ | refine w_cndT ?_ | refine w_cndF ?_ | refine w_gFt ?_ | refine w_gFf ?_ | refine w_pickT ?_ | refine w_pickF ?_) | ((with_reducible first | refine w_lss_NN (fun _ => ?_) (fun _ => ?_) | refine w_leq_IN (fun _ => ?_) (fun _ => ?_) | refine w_eql_NN (fun _ => ?_) (fun _ => ?_)) <;> first | (exfalso; omega) | skip) | ((with_reducible refine w_add_NN ?_ ?_) ; omega) | ((with_reducible refine w_sub_NNI ?_ ?_ ?_) ; omega; omega))
    ·have := nz_none hp' fun t ht => by have := hb2 t (by omega); omega
     subst this
     exact w_clr H rfl ⟨rfl, lgN rfl⟩
    ·obtain ⟨S2, rfl, f2, p2⟩ := nz_head hS' hp' hb1 hb2 (by omega)
     refine w_clr H rfl ⟨rfl, lgN ?_⟩
     show (if j = most then none else _) = _
     rw [if_pos (by omega)]
    ·obtain ⟨S2, rfl, f2, p2⟩ := nz_head hS' hp' hb1 hb2 (by omega)
     refine w_clr H5 rfl ⟨rfl, lgS _ ?_⟩
     show (if j = most then none else if n' ≤ _ then some (j + 1) else _) = _
     rw [if_neg (by omega), if_pos (by omega)]
    ·obtain ⟨S2, rfl, f2, p2⟩ := nz_head hS' hp' hb1 hb2 (by omega)
     have H6 := H5
     rw [show (Nc Rw).set b (.int .i64 (.ofNat 0)) = Nc (Rw.set b 0) from Nc_set Rw b 0] at H6
     have e1 : gr (Rw.getD b 0 :: S2) n' j most = gr S2 (n' - Rw.getD b 0) (j + 1) most := by
      show (if j = most then none else if n' ≤ _ then some (j + 1) else _) = _
      rw [if_neg (by omega), if_neg (by omega)]
     rw [show ((n' : Int) - ((Rw.getD b 0 : Nat) : Int)) = ((n' - Rw.getD b 0 : Nat) : Int) by omega]
     simp only [List.length_cons] at hm2 hj
     exact ih2 (m - 1) (by omega) (n' - Rw.getD b 0) (j + 1) (Rw.set b 0) S2 _ _ _ _ _ _ _ _ _ _ (by omega) (by omega) (by omega) (by omega) (by rw [List.length_set]; exact hRl) (fun x hx => by
      rcases List.mem_or_eq_of_mem_set hx with z | z
      ·exact hRb x z
      ·omega) f2 p2 (by rw [← e1]; exact hg) H6
end Go.Proofs.Ytndlcnfnoiabbaa.poolPlays

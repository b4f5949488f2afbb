/- Contracts of functions, by the logic of residual programs. -/
import Derived.Test.YtndlcnfnoiabbaaPoolPlaysTab
import Derived.Test.YtndlcnfnoiabbaaGevHos
import Derived.Test.YtndlcnfnoiabbaaGevFms
namespace Go.Proofs.Ytndlcnfnoiabbaa.poolPlays
open Go Go.Gev
set_option linter.unusedVariables false
set_option linter.unusedSimpArgs false
def Wl (l : List Nat) : List (List Value) := l.map fun n => [Value.int .u64 (.ofNat n)]
def Small (l : List Nat) : Prop := ∀ n ∈ l, n < 18446744073709551616
structure Geo where
 b : Nat
 n : Nat
 c : Nat
 k : Nat
def Geo.v (g : Geo) : Value := .agg #[.int .i64 (.ofNat g.b), .int .i64 (.ofNat g.n), .int .i64 (.ofNat g.c), .int .i64 (.ofNat g.k)]
def Geo.bitsAt (g : Geo) : Nat := 1 + g.c * g.k
def Geo.bitsN (g : Geo) : Nat := (g.b + 511) / 512
def Geo.dataAt (g : Geo) : Nat := g.bitsAt + g.bitsN + 2 * g.n
structure Geo.Box (g : Geo) : Prop where
 b1 : 64 ≤ g.b
 b2 : g.b ≤ 1024
 n1 : 4 ≤ g.n
 n2 : g.n ≤ 64
 c1 : 1 ≤ g.c
 c2 : g.c ≤ 8
 k1 : 16 ≤ g.k
 k2 : g.k ≤ 110
def Geo.Ok (g : Geo) : Prop := g.Box ∧ g.dataAt + 2 ≤ g.b
instance (g : Geo) : Decidable g.Box := decidable_of_iff (64 ≤ g.b ∧ g.b ≤ 1024 ∧ 4 ≤ g.n ∧ g.n ≤ 64 ∧ 1 ≤ g.c ∧ g.c ≤ 8 ∧ 16 ≤ g.k ∧ g.k ≤ 110) ⟨fun ⟨a, b, c, d, e, f, g, h⟩ => ⟨a, b, c, d, e, f, g, h⟩, fun ⟨a, b, c, d, e, f, g, h⟩ => ⟨a, b, c, d, e, f, g, h⟩⟩
instance (g : Geo) : Decidable g.Ok := inferInstanceAs (Decidable (g.Box ∧ g.dataAt + 2 ≤ g.b))
theorem Geo.Box.ck {g : Geo} (x : g.Box) : 16 ≤ g.c * g.k ∧ g.c * g.k ≤ 880 :=
 ⟨Nat.mul_le_mul x.c1 x.k1, Nat.mul_le_mul x.c2 x.k2⟩
theorem Geo.Box.num {g : Geo} (x : g.Box) : 17 ≤ g.bitsAt ∧ g.bitsAt ≤ 881 ∧ 1 ≤ g.bitsN ∧ g.bitsN ≤ 2 ∧ g.dataAt = g.bitsAt + g.bitsN + 2 * g.n := by
 have := x.ck
 have := x.b1
 have := x.b2
 unfold Geo.bitsAt Geo.bitsN Geo.dataAt Geo.bitsAt Geo.bitsN
 omega
def CIn (R : RnK) : Prop := ∀ (a b c : Int) (h : Hs), R 23 [.int .i64 a, .int .i64 b, .int .i64 c] h = some (.val (.bool (decide (b ≤ a ∧ a ≤ c))) h)
theorem in_ok {R : RnK} {N : Nat} {a b c : Int} {h : Hs} : r23 R N [.int .i64 a, .int .i64 b, .int .i64 c] h = some (.val (.bool (decide (b ≤ a ∧ a ≤ c))) h) := by
 refine WP.eqn ?_
 unfold r23
 have H := Sto.enter h
 repeat' (first | (with_reducible first | refine w_gTt ?_ | refine w_gTf ?_ | refine w_pickT ?_ | refine w_pickF ?_ | refine w_unC ?_ | refine w_enK ?_) | ((with_reducible first | refine w_leq_II (fun _ => ?_) (fun _ => ?_) | refine w_geq_II (fun _ => ?_) (fun _ => ?_)) <;> first | (exfalso; omega) | skip))
 all_goals exact w_clrB H (by simp; omega)
theorem CIn.nat {R : RnK} (c : CIn R) (x y z : Nat) (h : Hs) : R 23 [.int .i64 (.ofNat x), .int .i64 (.ofNat y), .int .i64 (.ofNat z)] h = some (.val (.bool (decide (y ≤ x ∧ x ≤ z))) h) := by
 rw [c]
 congr 3
 simp
theorem CIn.int {R : RnK} (c : CIn R) (x : Int) (y z : Nat) (h : Hs) : R 23 [.int .i64 x, .int .i64 (.ofNat y), .int .i64 (.ofNat z)] h = some (.val (.bool (decide ((y : Int) ≤ x ∧ x ≤ (z : Int)))) h) := c x y z h
def CBits (R : RnK) : Prop := ∀ (g : Geo) (h : Hs), g.Box → R 41 [g.v] h = some (.val (.tuple #[.int .i64 (.ofNat g.bitsAt), .int .i64 (.ofNat g.bitsN)]) h)
theorem bits_ok {R : RnK} {N : Nat} {g : Geo} {h : Hs} (x : g.Box) : r41 R N [g.v] h = some (.val (.tuple #[.int .i64 (.ofNat g.bitsAt), .int .i64 (.ofNat g.bitsN)]) h) := by
 refine WP.eqn ?_
 unfold r41 Geo.v
 have H := Sto.enter h
 have h1 := x.ck
 have h2 := x.b2
 repeat' (first | (with_reducible first | refine w_unC ?_ | refine w_enK ?_ | refine w_fieldA ?_) | ((with_reducible refine w_boxA H ?_) ; (clear H; intro u H hu)) | ((with_reducible first | refine w_add_NN ?_ ?_ | refine w_mul_NN ?_ ?_) ; omega) | ((with_reducible refine w_sub_NN ?_ ?_ ?_) ; omega; omega) | ((with_reducible refine w_quo_NN ?_ ?_ ?_) ; omega; omega) | ((with_reducible apply w_load 0 H) ; rfl; rfl; rfl))
 refine w_clr H rfl ⟨?_, rfl⟩
 unfold Geo.bitsAt Geo.bitsN
 rw [show g.b + 512 - 1 = g.b + 511 from by omega]
def CData (R : RnK) : Prop := ∀ (g : Geo) (h : Hs), g.Box → R 24 [g.v] h = some (.val (.tuple #[.int .i64 (.ofNat g.dataAt), .int .i64 ((g.b : Int) - 1 - (g.dataAt : Int))]) h)
theorem data_ok {R : RnK} {N : Nat} (cb : CBits R) {g : Geo} {h : Hs} (x : g.Box) : r24 R N [g.v] h = some (.val (.tuple #[.int .i64 (.ofNat g.dataAt), .int .i64 ((g.b : Int) - 1 - (g.dataAt : Int))]) h) := by
 refine WP.eqn ?_
 unfold r24 Geo.v
 have H := Sto.enter h
 have h1 := x.num
 have h2 := x.b2
 have h3 := x.n2
 have h4 := x.b1
 repeat' (first | (refine w_callE (cb g _ x) ?_) | (with_reducible first | refine w_unC ?_ | refine w_enK ?_ | refine w_fieldA ?_) | ((with_reducible apply w_extr) ; rfl) | ((with_reducible refine w_boxA H ?_) ; (clear H; intro u H hu)) | ((with_reducible first | refine w_add_NN ?_ ?_ | refine w_mul_NN ?_ ?_) ; omega) | ((with_reducible refine w_sub_NN ?_ ?_ ?_) ; omega; omega) | ((with_reducible refine w_sub_NNI ?_ ?_ ?_) ; omega; omega) | ((with_reducible apply w_load 0 H) ; rfl; rfl; rfl) | ((with_reducible apply w_loadsF 0 H) ; rfl; rfl; rfl))
 all_goals (refine w_clr H rfl ⟨?_, rfl⟩; rw [h1.2.2.2.2])
 rw [show ((g.b - 1 : Nat) : Int) = (g.b : Int) - 1 from by omega]
def CGood (R : RnK) : Prop := ∀ (g : Geo) (h : Hs), R 5 [g.v] h = some (.val (.bool (decide g.Ok)) h)
theorem good_ok {R : RnK} {N : Nat} (ci : CIn R) (cd : CData R) {g : Geo} {h : Hs} : r5 R N [g.v] h = some (.val (.bool (decide g.Ok)) h) := by
 refine WP.eqn ?_
 unfold r5 Geo.v
 have H := Sto.enter h
 repeat' (first | ((refine w_callB (ci.nat _ _ _ _) (fun _ => ?_) (fun _ => ?_)) <;> first | (exfalso; omega) | skip) | (with_reducible first | refine w_jn ?_ | refine w_cndT ?_ | refine w_cndF ?_ | refine w_gFt ?_ | refine w_gFf ?_ | refine w_pickT ?_ | refine w_pickF ?_ | refine w_notT ?_ | refine w_notF ?_ | refine w_unC ?_ | refine w_enK ?_ | refine w_fieldA ?_) | ((with_reducible refine w_boxA H ?_) ; (clear H; intro u H hu)) | ((with_reducible apply w_load 0 H) ; rfl; rfl; rfl) | ((with_reducible apply w_loadsF 0 H) ; rfl; rfl; rfl))
 ·have x : g.Box := ⟨by omega, by omega, by omega, by omega, by omega, by omega, by omega, by omega⟩
  have h1 := x.num
  refine w_callE (cd g _ x) ?_
  repeat' (first | ((with_reducible apply w_extr) ; rfl) | ((with_reducible refine w_geq_IN (fun _ => ?_) (fun _ => ?_)) <;> first | (exfalso; omega) | skip))
  all_goals exact w_clrB H (by unfold Geo.Ok; simp [x]; omega)
 all_goals exact w_clrB H (by unfold Geo.Ok; simp; intro x; have := x.1; have := x.2; have := x.3; have := x.4; have := x.5; have := x.6; have := x.7; have := x.8; omega)
def Geo.dataN (g : Geo) : Nat := g.b - 1 - g.dataAt
def CDataF (R : RnK) : Prop := ∀ (g : Geo) (h : Hs), g.Ok → R 8 [g.v] h = some (.val (.tuple #[.int .i64 (.ofNat g.dataAt), .int .i64 (.ofNat g.dataN)]) h)
theorem dataF_ok {R : RnK} {N : Nat} (cg : CGood R) (cd : CData R) {g : Geo} {h : Hs} (x : g.Ok) : r8 R N [g.v] h = some (.val (.tuple #[.int .i64 (.ofNat g.dataAt), .int .i64 (.ofNat g.dataN)]) h) := by
 refine WP.eqn ?_
 unfold r8 Geo.v
 have H := Sto.enter h
 have h2 := x.2
 repeat' (first | ((refine w_callB (cg g _) (fun _ => ?_) (fun _ => ?_)) <;> first | (exfalso; omega) | skip) | (refine w_callE (cd g _ x.1) ?_) | (with_reducible first | refine w_jn ?_ | refine w_cndT ?_ | refine w_cndF ?_ | refine w_notT ?_ | refine w_notF ?_ | refine w_unC ?_ | refine w_enK ?_) | ((with_reducible apply w_extr) ; rfl) | ((with_reducible refine w_boxA H ?_) ; (clear H; intro u H hu)) | ((with_reducible apply w_loadsF 0 H) ; rfl; rfl; rfl))
 ·refine w_clr H rfl ⟨?_, rfl⟩
  rw [show (g.b : Int) - 1 - (g.dataAt : Int) = .ofNat g.dataN from by unfold Geo.dataN; simp only [Int.ofNat_eq_natCast]; omega]
 ·exact absurd x ‹_›
def Wc (l : List Nat) : List Value := l.map fun n => Value.int .u64 (.ofNat n)
theorem Wl_ones (l : List Nat) : Wl l = ones (Wc l) := by unfold Wl ones Wc; rw [List.map_map]; rfl
theorem Wl_len (l : List Nat) : (Wl l).length = l.length := List.length_map _
theorem Wl_get {l : List Nat} {i : Nat} (hi : i < l.length) : (Wl l)[i]? = some [Value.int .u64 (.ofNat l[i])] := by
 unfold Wl; rw [List.getElem?_map, List.getElem?_eq_getElem hi]; rfl
theorem Rd.none (h : Hs) (u : Nat) : Rd h (.slice none 0 0) u [] := ⟨⟨(fun l hl => by cases hl), .inl ⟨_, _, rfl, rfl⟩⟩, fun b hb => by cases hb⟩
theorem Small.take {l : List Nat} (h : Small l) (k : Nat) : Small (l.take k) := fun n hn => h n (List.mem_of_mem_take hn)
theorem Small.drop {l : List Nat} (h : Small l) (k : Nat) : Small (l.drop k) := fun n hn => h n (List.mem_of_mem_drop hn)
theorem ones_flatten (L : List Value) : (ones L).flatten = L := by
 induction L with
 | nil => rfl
 | cons x L ih => show x :: (ones L).flatten = _; rw [ih]
theorem Wl_flat (l : List Nat) : (Wl l).flatten = Wc l := by rw [Wl_ones, ones_flatten]
theorem Wc_one (l : List Nat) : allOne (Wc l) = true := allOne_of _ fun v hv => by
 unfold Wc at hv
 rw [List.mem_map] at hv
 obtain ⟨n, _, rfl⟩ := hv
 exact ⟨_, _, rfl⟩
theorem Wc_flatL (l : List Nat) : flatL (Wc l) = true := flatL_of _ fun v hv => by
 unfold Wc at hv
 rw [List.mem_map] at hv
 obtain ⟨n, _, rfl⟩ := hv
 exact ⟨_, _, rfl⟩
theorem Wc_len (l : List Nat) : (Wc l).length = l.length := List.length_map _
theorem Wc_set (l : List Nat) (i n : Nat) : (Wc l).set i (.int .u64 (.ofNat n)) = Wc (l.set i n) := by unfold Wc; rw [List.map_set]
theorem Wc_get {l : List Nat} {i : Nat} (hi : i < l.length) : (Wc l)[i]? = some (.int .u64 (.ofNat l[i])) := by
 unfold Wc; rw [List.getElem?_map, List.getElem?_eq_getElem hi]; rfl
abbrev OW (v : Value) (l : List Nat) : Th := .osl v 58 1 true l.length (Wc l)
theorem rd_nil_of {h : Hs} {n c u : Nat} {L : List (List Value)} (r : Rd h (.slice none n c) u L) : L = [] ∧ n = 0 := by
 rcases r.1.2 with ⟨a, c, e, q⟩ | ⟨id, o, c, cs, sz, e, u', rw_, f, q, _⟩
 ·injection e with _ e2
  exact ⟨q, e2⟩
 ·injection q with q; cases q
def CCloneW (R : RnK) : Prop := ∀ (l : List Nat) (v : Value) (h : Hs), l.length < 100000 → Rd h v 1 (Wl l) → WP (R 38 [v] h) fun v' h' => New h h' (OW v' l)
theorem cloneW_ok {R : RnK} {N : Nat} {l : List Nat} {v : Value} {h : Hs} (hb : l.length < 100000) (r : Rd h v 1 (Wl l)) : WP (r38 R N [v] h) fun v' h' => New h h' (OW v' l) := by
 unfold r38
 have H := Sto.enter1 r
 obtain ⟨a, c, rfl⟩ := r.1.form
 have e := Wl_len l
 cases a with
 | none =>
  have hl : l = [] := by have := (rd_nil_of r).1; unfold Wl at this; exact List.map_eq_nil_iff.1 this
  subst hl
  refine w_unC ?_
  refine w_enK ?_
  refine w_ob rfl ?_
  repeat' (first | (with_reducible first | refine w_jn ?_ | refine w_cndT ?_))
  exact w_clr H rfl ⟨Same.refl h, ⟨rfl, .inl ⟨rfl, rfl⟩⟩, fun b hb => by cases hb⟩
 | some a =>
  refine w_unC ?_
  refine w_enK ?_
  refine w_ob rfl ?_
  repeat' (first | (with_reducible first | refine w_jn ?_ | refine w_cndF ?_) | ((with_reducible apply w_mkrow H) ; rfl; (clear H; intro u H hu; (try dsimp only [List.set_cons_zero, List.set_cons_succ, cellsL, List.toList_toArray, splice, ev, rep, List.cons_append, List.nil_append] at H))))
  have H2 := H.osl 0 rfl (n := 0) (c := 0) rfl (Nat.le_refl _)
  refine w_append 0 1 H2 rfl rfl (by omega) (by rw [Wl_flat]; exact Wc_one l) (by omega) fun v' h' H3 hn => ?_
  rw [Wl_flat, e, Wc_flatL] at H3
  skip
  have e0 : 0 + l.length = l.length := Nat.zero_add _
  rw [e0] at H3
  exact w_clrO 0 H3 rfl fun v' h' n => n
theorem rep_W (n : Nat) : rep [Value.int .u64 (.ofNat 0)] n = Wc (List.replicate n 0) := by
 induction n with
 | zero => rfl
 | succ n ih => rw [rep, ih]; rfl
def CBitsNew (R : RnK) : Prop := ∀ (n : Nat) (h : Hs), n ≤ 65536 → WP (R 25 [.int .i64 (.ofNat n)] h) fun v h' => ∃ s, v = .agg #[s] ∧ New h h' (OW s (List.replicate ((n + 63) / 64) 0))
theorem bitsNew_ok {R : RnK} {N : Nat} {n : Nat} {h : Hs} (hn : n ≤ 65536) : WP (r25 R N [.int .i64 (.ofNat n)] h) fun v h' => ∃ s, v = .agg #[s] ∧ New h h' (OW s (List.replicate ((n + 63) / 64) 0)) := by
 unfold r25
 have H := Sto.enter h
 repeat' (first | (with_reducible first | refine w_unC ?_ | refine w_enK ?_ | refine w_max_NN ?_ | refine w_min_NN ?_ | refine w_st1A ?_) | ((with_reducible apply w_build) ; rfl; (try dsimp only [splice, ev, cellsL, rep, List.cons_append, List.nil_append])) | ((with_reducible refine w_alloc H ?_) ; (clear H; intro u H hu)) | ((with_reducible refine w_mkslice H ?_ ?_ ?_) ; omega; rfl; (clear H; intro u H hu)) | ((with_reducible refine w_add_NN ?_ ?_) ; omega) | ((with_reducible refine w_sub_NN ?_ ?_ ?_) ; omega; omega) | ((with_reducible refine w_quo_NN ?_ ?_ ?_) ; omega; omega) | ((with_reducible apply w_storeV 1 H) ; rfl; rfl; rfl; omega; rfl; (clear H; intro u H hu; (try dsimp only [List.set_cons_zero, List.set_cons_succ, cellsL, List.toList_toArray, splice, ev, rep, List.cons_append, List.nil_append] at H))) | ((with_reducible apply w_retC 1 H) ; rfl; rfl; rfl))
 have e : (min (max n 0) 65536 + 64 - 1) / 64 = (n + 63) / 64 := by omega
 rw [e, rep_W] at H
 rw [e]
 have H2 := H.osl 0 rfl (n := (n + 63) / 64) (c := (n + 63) / 64) (by rw [Wc_len, List.length_replicate, Nat.mul_one]) (Nat.le_refl _)
 refine w_clrC (fun v => .agg #[v]) 0 H2 rfl (fun _ _ _ => by simp [blkV, blkP]) (fun _ _ _ _ => rfl) fun v' h' n => ⟨_, rfl, ?_⟩
 show New h h' (.osl v' 58 1 true (List.replicate _ 0).length _)
 rw [List.length_replicate]; exact n
def CThere (R : RnK) : Prop := ∀ (v : Value) (l : List Nat) (i : Int) (h : Hs), l.length < 100000 → i ≤ 9223372036854775807 → Rd h v 1 (Wl l) → R 37 [.agg #[v], .int .i64 i] h = some (.val (.bool (decide (0 ≤ i ∧ i.toNat / 64 < l.length))) h)
theorem there_ok {R : RnK} {N : Nat} {v : Value} {l : List Nat} {i : Int} {h : Hs} (hb : l.length < 100000) (hi : i ≤ 9223372036854775807) (r : Rd h v 1 (Wl l)) : r37 R N [.agg #[v], .int .i64 i] h = some (.val (.bool (decide (0 ≤ i ∧ i.toNat / 64 < l.length))) h) := by
 refine WP.eqn ?_
 unfold r37
 obtain ⟨a, c, rfl⟩ := r.1.form
 have H := Sto.enter1 r
 have e := Wl_len l
 by_cases h0 : 0 ≤ i
 ·obtain ⟨n, rfl⟩ := Int.eq_ofNat_of_zero_le h0
  rw [show (Value.int .i64 (n : Int)) = .int .i64 (.ofNat n) from rfl]
  repeat' (first | (with_reducible first | refine w_gTt ?_ | refine w_pickT ?_ | refine w_unC ?_ | refine w_enK ?_ | refine w_fieldA ?_ | refine w_lenV ?_) | ((with_reducible refine w_boxA H ?_) ; (clear H; intro u H hu)) | ((with_reducible first | refine w_lss_NN (fun _ => ?_) (fun _ => ?_) | refine w_geq_NN (fun _ => ?_) (fun _ => ?_)) <;> first | (exfalso; omega) | skip) | ((with_reducible refine w_quo_NN ?_ ?_ ?_) ; omega; omega) | ((with_reducible apply w_load 0 H) ; rfl; rfl; rfl))
  all_goals exact w_clrB H (by simp; omega)
 ·repeat' (first | (with_reducible first | refine w_gTf ?_ | refine w_pickF ?_ | refine w_unC ?_ | refine w_enK ?_) | ((with_reducible refine w_boxA H ?_) ; (clear H; intro u H hu)) | ((with_reducible refine w_geq_IN (fun _ => ?_) (fun _ => ?_)) <;> first | (exfalso; omega) | skip))
  all_goals exact w_clrB H (by simp; omega)
def Il (l : List Int) : List (List Value) := l.map fun i => [Value.int .i64 i]
theorem Il_len (l : List Int) : (Il l).length = l.length := List.length_map _
theorem Il_get {l : List Int} {i : Nat} (hi : i < l.length) : (Il l)[i]? = some [Value.int .i64 l[i]] := by
 unfold Il; rw [List.getElem?_map, List.getElem?_eq_getElem hi]; rfl
def clrBit (w k : Nat) : Nat := w &&& (18446744073709551615 - 2 ^ k)
def putBit (w k : Nat) (yes : Bool) : Nat := if yes then clrBit w k ||| 2 ^ k else clrBit w k
def setBit (l : List Nat) (yes : Bool) (i : Int) : List Nat := if 0 ≤ i ∧ i.toNat / 64 < l.length then l.set (i.toNat / 64) (putBit (l.getD (i.toNat / 64) 0) (i.toNat % 64) yes) else l
def setBits (l : List Nat) (yes : Bool) (is : List Int) : List Nat := is.foldl (fun l i => setBit l yes i) l
theorem setBit_len (l : List Nat) (yes : Bool) (i : Int) : (setBit l yes i).length = l.length := by
 unfold setBit; split
 ·rw [List.length_set]
 ·rfl
theorem setBits_len (yes : Bool) (is : List Int) : ∀ (l : List Nat), (setBits l yes is).length = l.length := by
 induction is with
 | nil => intro l; rfl
 | cons i is ih => intro l; show (setBits (setBit l yes i) yes is).length = _; rw [ih, setBit_len]
theorem pow_le63 {k : Nat} (hk : k < 64) : 2 ^ k ≤ 9223372036854775808 := by
 have := Nat.pow_le_pow_right (show 0 < 2 by omega) (show k ≤ 63 by omega)
 simpa using this
theorem clrBit_lt {w k : Nat} (hw : w < 18446744073709551616) : clrBit w k < 18446744073709551616 := Nat.lt_of_le_of_lt Nat.and_le_left hw
theorem or_lt {a b : Nat} (ha : a < 18446744073709551616) (hb : b < 18446744073709551616) : a ||| b < 18446744073709551616 := by
 have : (18446744073709551616 : Nat) = 2 ^ 64 := by decide
 rw [this] at *
 exact Nat.or_lt_two_pow ha hb
theorem putBit_lt {w k : Nat} {yes : Bool} (hw : w < 18446744073709551616) (hk : k < 64) : putBit w k yes < 18446744073709551616 := by
 have := pow_le63 hk
 unfold putBit; split
 ·exact or_lt (clrBit_lt hw) (by omega)
 ·exact clrBit_lt hw
theorem Small.set {l : List Nat} (h : Small l) (i n : Nat) (hn : n < 18446744073709551616) : Small (l.set i n) := fun x hx => by
 rcases List.mem_or_eq_of_mem_set hx with h1 | h1
 ·exact h x h1
 ·omega
theorem Small.getD {l : List Nat} (h : Small l) (i : Nat) : l.getD i 0 < 18446744073709551616 := by
 rw [List.getD_eq_getElem?_getD]
 cases e : l[i]? with
 | none => simp
 | some x => exact h x (List.mem_of_getElem? e)
theorem setBit_small {l : List Nat} (h : Small l) (yes : Bool) (i : Int) : Small (setBit l yes i) := by
 unfold setBit; split
 ·exact h.set _ _ (putBit_lt (h.getD _) (Nat.mod_lt _ (by omega)))
 ·exact h
theorem setBits_small {yes : Bool} {is : List Int} : ∀ {l : List Nat}, Small l → Small (setBits l yes is) := by
 induction is with
 | nil => intro l h; exact h
 | cons i is ih => intro l h; exact ih (setBit_small h yes i)
theorem setBits_snoc (l : List Nat) (yes : Bool) (is : List Int) (i : Int) : setBits l yes (is ++ [i]) = setBit (setBits l yes is) yes i := by unfold setBits; rw [List.foldl_append]; rfl
def CBitsSet (R : RnK) : Prop := ∀ (l : List Nat) (yes : Bool) (is : List Int) (v w : Value) (h : Hs), Small l → l.length < 100000 → is.length < 100000 → (∀ i ∈ is, i ≤ 9223372036854775807) → Rd h v 1 (Wl l) → Rd h w 1 (Il is) → WP (R 17 [.agg #[v], .bool yes, w] h) fun v h' => ∃ s, v = .agg #[s] ∧ New h h' (OW s (setBits l yes is))
theorem bitsSet_ok {R : RnK} {N : Nat} (cc : CCloneW R) (ct : CThere R) {l : List Nat} {yes : Bool} {is : List Int} {v w : Value} {h : Hs} (hN : 100000 < N) (hl : Small l) (hb : l.length < 100000) (hi : is.length < 100000) (hm : ∀ i ∈ is, i ≤ 9223372036854775807) (r1 : Rd h v 1 (Wl l)) (r2 : Rd h w 1 (Il is)) :
 WP (r17 R N [.agg #[v], .bool yes, w] h) fun v h' => ∃ s, v = .agg #[s] ∧ New h h' (OW s (setBits l yes is)) := by
 unfold r17
 obtain ⟨a, c, rfl⟩ := r1.1.formN (Wl_len l)
 obtain ⟨a2, c2, rfl⟩ := r2.1.formN (Il_len is)
 have H := Sto.enter2 r1 r2
 have e := Wl_len l
 have e2 := Il_len is
 repeat' (first | (with_reducible first | refine w_unC ?_ | refine w_enK ?_ | refine w_fieldA ?_) | ((with_reducible refine w_boxA H ?_) ; (clear H; intro u H hu)) | ((with_reducible refine w_alloc H ?_) ; (clear H; intro u H hu)) | ((with_reducible apply w_load 1 H) ; rfl; rfl; rfl))
 refine w_call (cc l _ _ hb (H.rd 2 rfl)) fun v' h' n => ?_
 obtain ⟨a3, c3, rfl⟩ := n.2.1.form
 replace H := H.call n
 repeat' (first | (with_reducible first | refine w_jn ?_ | refine w_lenV ?_ | refine w_st1A ?_) | ((with_reducible apply w_build) ; rfl; (try dsimp only [splice, ev, cellsL, rep, List.cons_append, List.nil_append])) | ((with_reducible refine w_alloc H ?_) ; (clear H; intro u H hu)) | ((with_reducible apply w_storeV 0 H) ; rfl; rfl; rfl; omega; rfl; (clear H; intro u H hu; (try dsimp only [List.set_cons_zero, List.set_cons_succ, cellsL, List.toList_toArray, splice, ev, rep, List.cons_append, List.nil_append] at H))))
 clear n
 obtain ⟨m0, hm0, H0⟩ : ∃ m0, m0 = _ ∧ Sto h [] _ m0 := ⟨_, rfl, H⟩
 have step : ∀ (o : List Nat) (u : Hs), Sto h [] u (m0.set 1 (OW (.slice a3 l.length c3) o)) = Sto h [] u (m0.set 1 (.osl (.slice a3 l.length c3) 58 1 true o.length (Wc o))) := fun _ _ => rfl
 refine lp_ind (Good := fun n (self : L5) => ∀ (i : Nat) (y1 y2 y3 y4 : Value) (u : Hs), i + n = is.length → Sto h [] u (m0.set 1 (.osl (.slice a3 l.length c3) 58 1 true l.length (Wc (setBits l yes (is.take i))))) → WP (self (.int .i64 (.ofNat i)) y1 y2 y3 y4 u) (fun v h' => ∃ s, v = .agg #[s] ∧ New h h' (OW s (setBits l yes is)))) (fun n self ih i y1 y2 y3 y4 u hi H1 => ?_) N is.length (by omega) 0 _ _ _ _ _ (by omega) (by rw [hm0]; exact H)
 clear H0 H
 have hm1 := hm0
 rw [hm0] at H1
 have H := H1
 dsimp only [List.set_cons_zero, List.set_cons_succ] at H
 have sl := setBits_len yes (is.take i) l
 have ss : Small (setBits l yes (is.take i)) := setBits_small hl
 repeat' (first | (with_reducible first | refine w_jn ?_ | refine w_cndT ?_ | refine w_cndF ?_ | refine w_st1A ?_) | ((with_reducible refine w_lss_NN (fun _ => ?_) (fun _ => ?_)) <;> first | (exfalso; omega) | skip) | ((with_reducible apply w_loadsF 0 H) ; rfl; rfl; rfl) | ((with_reducible apply w_storeV 2 H) ; rfl; rfl; rfl; omega; rfl; (clear H; intro u H hu; (try dsimp only [List.set_cons_zero, List.set_cons_succ, cellsL, List.toList_toArray, splice, ev, rep, List.cons_append, List.nil_append] at H))) | ((with_reducible apply w_retC 2 H) ; rfl; rfl; rfl))
 ·have ii : i < is.length := by omega
  refine w_at1 5 H rfl (Il_get ii) rfl rfl ?_
  have hx := hm is[i] (List.getElem_mem ii)
  have tk : is.take (i + 1) = is.take i ++ [is[i]] := by rw [List.take_add_one, List.getElem?_eq_getElem ii]; rfl
  have sn : setBits l yes (is.take (i + 1)) = setBit (setBits l yes (is.take i)) yes is[i] := by rw [tk, setBits_snoc]
  repeat' (first | ((with_reducible apply w_loadsF 3 H) ; rfl; rfl; rfl))
  refine w_callB (ct _ l _ _ hb hx (H.rd 4 rfl)) (fun q => ?_) (fun q => ?_)
  ·obtain ⟨k, hk⟩ := Int.eq_ofNat_of_zero_le q.1
   have q2 : k / 64 < l.length := by have := q.2; rw [hk] at this; exact this
   have sb : setBit (setBits l yes (is.take i)) yes is[i] = (setBits l yes (is.take i)).set (k / 64) (putBit ((setBits l yes (is.take i)).getD (k / 64) 0) (k % 64) yes) := by
    unfold setBit
    rw [hk, if_pos ⟨by omega, by show k / 64 < _; omega⟩]; rfl
   rw [hk, show (Value.int .i64 (k : Int)) = .int .i64 (.ofNat k) from rfl]
   generalize ho : setBits l yes (is.take i) = o at *
   have lo : k / 64 < o.length := by omega
   have hw := ss.getD (k / 64)
   have hp := pow_le63 (Nat.mod_lt k (show 0 < 64 by omega))
   repeat' (first | (with_reducible first | refine w_jn ?_ | refine w_cndF ?_ | refine w_notT ?_ | refine w_fieldA ?_) | ((with_reducible refine w_quo_NN ?_ ?_ ?_) ; omega; omega) | ((with_reducible apply w_load 0 H) ; rfl; rfl; rfl))
   refine w_atO 1 H rfl (Wc_get lo) rfl ?_
   have ow : o[k / 64] < 18446744073709551616 := ss _ (List.getElem_mem lo)
   have gd : o.getD (k / 64) 0 = o[k / 64] := by rw [List.getD_eq_getElem?_getD, List.getElem?_eq_getElem lo]; rfl
   repeat' (first | ((with_reducible first | refine w_rem_NN ?_ ?_ | refine w_shl ?_ ?_) ; omega) | ((with_reducible refine w_uandNot ?_ ?_ ?_) ; omega; omega))
   have p1 : 1 * 2 ^ (k % 64) % 18446744073709551616 = 2 ^ (k % 64) := by rw [Nat.one_mul, Nat.mod_eq_of_lt (by omega)]
   rw [p1]
   refine w_storeO 1 H rfl (by rw [Wc_len]; exact lo) rfl fun u' H2 hu' => ?_
   rw [Wc_set] at H2
   clear H; have H := H2; clear H2
   dsimp only [List.set_cons_zero, List.set_cons_succ] at H
   cases yes with
   | false =>
    repeat' (first | (with_reducible first | refine w_jn ?_ | refine w_cndF ?_) | ((with_reducible first | refine w_bar ?_ ?_ | refine w_add_NN ?_ ?_) ; omega))
    refine ih (n - 1) (by omega) (i + 1) _ _ _ _ _ (by omega) ?_
    rw [sn, hm1, sb, gd]
    exact H
   | true =>
    have lo2 : k / 64 < (o.set (k / 64) (o[k / 64] &&& (18446744073709551615 - 2 ^ (k % 64)))).length := by rw [List.length_set]; exact lo
    repeat' (first | (with_reducible first | refine w_jn ?_ | refine w_cndT ?_ | refine w_fieldA ?_) | ((with_reducible refine w_bar ?_ ?_) ; omega) | ((with_reducible refine w_quo_NN ?_ ?_ ?_) ; omega; omega) | ((with_reducible apply w_load 0 H) ; rfl; rfl; rfl))
    refine w_atO 1 H rfl (Wc_get lo2) rfl ?_
    have g2 : (o.set (k / 64) (o[k / 64] &&& (18446744073709551615 - 2 ^ (k % 64))))[k / 64] = clrBit o[k / 64] (k % 64) := by rw [List.getElem_set_self]; rfl
    have c2 := clrBit_lt (k := k % 64) ow
    rw [g2]
    repeat' (first | ((with_reducible first | refine w_rem_NN ?_ ?_ | refine w_shl ?_ ?_) ; omega) | ((with_reducible refine w_uor ?_ ?_ ?_) ; omega; omega))
    rw [p1]
    skip
    refine w_storeO 1 H rfl (by rw [Wc_len]; exact lo2) rfl fun u' H2 hu' => ?_
    rw [Wc_set, List.set_set] at H2
    clear H; have H := H2; clear H2
    dsimp only [List.set_cons_zero, List.set_cons_succ] at H
    repeat' (first | ((with_reducible first | refine w_bar ?_ ?_ | refine w_add_NN ?_ ?_) ; omega))
    refine ih (n - 1) (by omega) (i + 1) _ _ _ _ _ (by omega) ?_
    rw [sn, hm1, sb, gd]
    exact H
  ·repeat' (first | (with_reducible first | refine w_jn ?_ | refine w_cndT ?_ | refine w_notF ?_) | ((with_reducible refine w_add_NN ?_ ?_) ; omega))
   refine ih (n - 1) (by omega) (i + 1) _ _ _ _ _ (by omega) ?_
   rw [sn, show setBit (setBits l yes (is.take i)) yes is[i] = setBits l yes (is.take i) from if_neg (by rw [sl]; exact q), hm1]
   exact H
 ·rw [List.take_of_length_le (by omega)] at H
  have sl2 := setBits_len yes is l
  refine w_clrC (fun v => .agg #[v]) 1 H rfl (fun _ _ _ => by simp [blkV, blkP]) (fun _ _ _ _ => rfl) fun v' h' n => ⟨_, rfl, ?_⟩
  show New h h' (.osl v' 58 1 true (setBits l yes is).length _)
  rw [sl2]; exact n
structure Nd where
 ty : Nat
 ln : Nat
 sz : Nat
 rs : List (Nat × Nat)
def rv (r : Nat × Nat) : List Value := [.int .i64 (.ofNat r.1), .int .i64 (.ofNat r.2)]
def Rl (l : List (Nat × Nat)) : List (List Value) := l.map rv
theorem Rl_len (l : List (Nat × Nat)) : (Rl l).length = l.length := List.length_map _
theorem Rl_get {l : List (Nat × Nat)} {i : Nat} (hi : i < l.length) : (Rl l)[i]? = some [.int .i64 (.ofNat l[i].1), .int .i64 (.ofNat l[i].2)] := by
 unfold Rl; rw [List.getElem?_map, List.getElem?_eq_getElem hi]; rfl
def Nd.v (d : Nd) (a : Option Addr) (c : Nat) : Value := .agg #[.int .i64 (.ofNat d.ty), .int .i64 (.ofNat d.ln), .int .i64 (.ofNat d.sz), .slice a d.rs.length c]
def Nd.free (d : Nd) : Prop := d.ty = 0 ∧ d.ln = 0 ∧ d.sz = 0 ∧ d.rs = []
instance (d : Nd) : Decidable d.free := inferInstanceAs (Decidable (_ ∧ _ ∧ _ ∧ _))
def runW (r : Nat × Nat) : Nat := r.1 ||| (r.2 * 4294967296 % 18446744073709551616)
def Nd.head (d : Nd) : List Nat := [d.ty ||| (d.ln * 256 % 18446744073709551616), d.sz]
def Nd.body (d : Nd) : List Nat := d.head ++ d.rs.map runW ++ List.replicate (5 - d.rs.length) 0
def bitStep (g : Geo) (l : List Nat) (j : Nat) : List Nat := if j < g.dataAt ∨ g.dataAt + g.dataN ≤ j then setBit l true j else l
def bitsInit (g : Geo) (i : Nat) : List Nat := (List.range i).foldl (bitStep g) (List.replicate ((g.b + 63) / 64) 0)
theorem Rl_two (rs : List (Nat × Nat)) : ∀ l ∈ Rl rs, l.length = 2 := fun l hl => by
 unfold Rl at hl
 rw [List.mem_map] at hl
 obtain ⟨r, _, rfl⟩ := hl
 rfl
theorem bitsInit_small {g : Geo} {i : Nat} : Small (bitsInit g i) := by
 have : ∀ (l : List Nat) (w : List Nat), Small w → Small (l.foldl (bitStep g) w) := by
  intro l
  induction l with
  | nil => intro w hw; exact hw
  | cons j l ih =>
   intro w hw
   refine ih _ ?_
   unfold bitStep; split
   ·exact setBit_small hw _ _
   ·exact hw
 exact this _ _ fun n hn => by rw [List.mem_replicate] at hn; omega
theorem bitsInit_len {g : Geo} {i : Nat} : (bitsInit g i).length = (g.b + 63) / 64 := by
 have : ∀ (l : List Nat) (w : List Nat), (l.foldl (bitStep g) w).length = w.length := by
  intro l
  induction l with
  | nil => intro w; rfl
  | cons j l ih =>
   intro w
   rw [List.foldl_cons, ih]
   unfold bitStep; split
   ·exact setBit_len _ _ _
   ·rfl
 unfold bitsInit
 rw [this, List.length_replicate]
def blockAt (l : List Nat) (i : Nat) : List Nat := (l.drop (8 * i)).take 8
theorem w_jnG {Q : Value → Hs → Prop} {T : Type} {k : T} {F : T → An} (w : ∀ K : T, K = k → WP (F K) Q) : WP (jn k F) Q := w k rfl
def Rc (l : List (Nat × Nat)) : List Value := (Rl l).flatten
theorem Rc_len (l : List (Nat × Nat)) : (Rc l).length = l.length * 2 := by
 unfold Rc Rl
 induction l with
 | nil => rfl
 | cons x l ih => show (rv x ++ (l.map rv).flatten).length = _; rw [List.length_append, ih, List.length_cons]; show 2 + _ = _; omega
theorem Rc_snoc (l : List (Nat × Nat)) (x : Nat × Nat) : Rc (l ++ [x]) = Rc l ++ rv x := by
 unfold Rc Rl; rw [List.map_append, List.flatten_append]; show _ ++ (rv x ++ []) = _; rw [List.append_nil]
theorem _root_.Go.Gev.Sto.rdOU {h0 h : Hs} {S : List Nat} {m : List Th} (k : Nat) {v : Value} {e u n : Nat} {fl : Bool} {L : List Value} {Ls : List (List Value)} (H : Sto h0 S h m) (hk : m[k]? = some (.osl v e u fl n L)) (hL : L = Ls.flatten) (hu : ∀ l ∈ Ls, l.length = u) (hn : Ls.length = n) : Rd h v u Ls := by
 obtain ⟨hl, o⟩ := H.ok _ (List.mem_of_getElem? hk)
 have hid := H.ids _ (List.mem_of_getElem? hk)
 rcases o with ⟨rfl, rfl⟩ | ⟨id, c, cs, sz, f, rfl, hc, hb, hf, hsz, hc'⟩
 ·have : Ls = [] := List.eq_nil_of_length_eq_zero hn
  subst this
  exact Rd.none _ _
 ·refine ⟨⟨hu, .inr ⟨id, 0, c, cs, sz, e, u, true, f, by rw [hn], by omega, hb, .inr rfl, fun i j l hi hj => ?_⟩⟩, fun b' hb' => ?_⟩
  ·have hx := flatten_get hu i j hj
   rw [hi] at hx
   have hll := hu l (List.mem_of_getElem? hi)
   have hlt : i * u + j < L.length := by
    have := (List.getElem?_eq_some_iff.1 hi).1
    rw [hl]
    have : (i + 1) * u ≤ n * u := Nat.mul_le_mul_right _ (by omega)
    rw [Nat.add_mul] at this
    omega
   rw [Nat.zero_add, hc' _ hlt, hL, hx]; rfl
  ·have : b' = id := by
    cases hq : Ls with
    | nil => rw [hq] at hb'; cases hb'
    | cons x Ls' => rw [hq] at hb'; injection hb' with q; exact q.symm
   subst this
   exact (hid _ rfl).1
theorem _root_.Go.Gev.Sto.rdOR {h0 h : Hs} {S : List Nat} {m : List Th} (k : Nat) {v : Value} {l : List (Nat × Nat)} (H : Sto h0 S h m) (hk : m[k]? = some (.osl v 52 2 true l.length (Rc l))) : Rd h v 2 (Rl l) :=
 H.rdOU k hk rfl (Rl_two l) (Rl_len l)
abbrev OR (v : Value) (l : List (Nat × Nat)) : Th := .osl v 52 2 true l.length (Rc l)
def sumR (l : List (Nat × Nat)) : Nat := (l.map fun r => r.2).sum
theorem sumR_snoc (l : List (Nat × Nat)) (r : Nat × Nat) : sumR (l ++ [r]) = sumR l + r.2 := by unfold sumR; rw [List.map_append, List.sum_append]; simp
theorem sumR_le {l : List (Nat × Nat)} (h : ∀ r ∈ l, r.1 ≤ 4294967296 ∧ r.2 ≤ 4294967296) : sumR l ≤ l.length * 4294967296 := by
 induction l with
 | nil => exact Nat.zero_le _
 | cons x l ih =>
  have h1 := (h x List.mem_cons_self).2
  have h2 := ih fun r hr => h r (List.mem_cons_of_mem _ hr)
  show x.2 + sumR l ≤ (l.length + 1) * 4294967296
  omega
theorem Small.block {l : List Nat} (h : Small l) (i : Nat) : Small (blockAt l i) := fun x hx => h x (List.mem_of_mem_drop (List.mem_of_mem_take hx))
def hasBit (B : List Nat) (i : Nat) : Bool := decide (i / 64 < B.length) && decide (B.getD (i / 64) 0 / 2 ^ (i % 64) &&& 1 = 1)
def CHas (R : RnK) : Prop := ∀ (B : List Nat) (i : Nat) (v : Value) (h : Hs), Small B → B.length < 100000 → i ≤ 1000000 → Rd h v 1 (Wl B) → R 16 [.agg #[v], .int .i64 (.ofNat i)] h = some (.val (.bool (hasBit B i)) h)
theorem has_ok {R : RnK} {N : Nat} (ct : CThere R) {B : List Nat} {i : Nat} {v : Value} {h : Hs} (sm : Small B) (hb : B.length < 100000) (hi : i ≤ 1000000) (r : Rd h v 1 (Wl B)) : r16 R N [.agg #[v], .int .i64 (.ofNat i)] h = some (.val (.bool (hasBit B i)) h) := by
 refine WP.eqn ?_
 unfold r16
 have H := Sto.enter1 r
 obtain ⟨a, c, rfl⟩ := r.1.formN (Wl_len B)
 have l1 := Wl_len B
 repeat' (first | (with_reducible first | refine w_unC ?_ | refine w_enK ?_) | ((with_reducible refine w_boxA H ?_) ; (clear H; intro u H hu)) | ((with_reducible apply w_loadsF 0 H) ; rfl; rfl; rfl))
 refine w_callB (ct _ B (i : Int) _ hb (by omega) (H.rd 1 rfl)) (fun q => ?_) (fun q => ?_)
 ·have q2 : i / 64 < B.length := q.2
  have gw := sm _ (List.getElem_mem q2)
  have gd2 : B.getD (i / 64) 0 = B[i / 64] := by rw [List.getD_eq_getElem?_getD, List.getElem?_eq_getElem q2]; rfl
  have d1 : B[i / 64] / 2 ^ (i % 64) ≤ B[i / 64] := Nat.div_le_self _ _
  unfold hasBit
  rw [gd2]
  repeat' (first | (with_reducible first | refine w_gTt ?_ | refine w_fieldA ?_) | ((with_reducible refine w_quo_NN ?_ ?_ ?_) ; omega; omega) | ((with_reducible apply w_load 0 H) ; rfl; rfl; rfl))
  refine w_idxR 1 H rfl (Wl_get q2) fun bb oo H1 => ?_
  repeat' (first | (with_reducible refine w_gTt ?_))
  refine w_loadE0 0 H1 rfl rfl rfl ?_
  clear H1
  repeat' (first | (with_reducible first | refine w_gTt ?_ | refine w_pickT ?_) | ((with_reducible refine w_ueql (fun _ => ?_) (fun _ => ?_)) <;> first | (exfalso; omega) | skip) | ((with_reducible first | refine w_rem_NN ?_ ?_ | refine w_shr ?_ ?_) ; omega) | ((with_reducible refine w_uand ?_ ?_ ?_) ; omega; omega))
  all_goals exact w_clr H rfl ⟨by congr 1; rw [decide_eq_true q2, Bool.true_and]; symm; first | exact decide_eq_true ‹_› | exact decide_eq_false ‹_›, rfl⟩
 ·repeat' (first | (with_reducible first | refine w_gTf ?_ | refine w_pickF ?_))
  refine w_clr H rfl ⟨?_, rfl⟩
  congr 1
  unfold hasBit
  have : ¬ i / 64 < B.length := fun z => q ⟨by omega, z⟩
  simp [this]
def Cnt (l : List (Nat × Nat)) : Prop := ∀ r ∈ l, 1 ≤ r.2 ∧ r.2 ≤ 1073741824 ∧ r.1 ≤ 1073741824
theorem w_atOR {Q : Value → Hs → Prop} {h0 h : Hs} {S : List Nat} {m : List Th} (k : Nat) {hh : Hs} {v : Value} {l : List (Nat × Nat)} {i : Nat} {K : Value → An} (H : Sto h0 S h m) (hk : m[k]? = some (OR v l)) (hi : i < l.length) (hp : hh.hp = h.hp) (w : WP (K (.agg [Value.int .i64 (.ofNat l[i].1), .int .i64 (.ofNat l[i].2)].toArray)) Q) :
 WP (kIdxA 2 v (.int .i64 (.ofNat i)) (fun p => kLoads 2 p hh K)) Q := by
 have rd := H.rdOR k hk
 have H2 := Sto.enterR h [.rsl v 2 (Rl l)] (fun t ht => by rw [List.mem_singleton.1 ht]; exact ⟨rfl, rd.1, fun b hb => rd.2 b hb⟩)
 exact w_at 0 H2 rfl (Rl_get hi) hp rfl w
def CCounts (R : RnK) : Prop := ∀ (l : List (Nat × Nat)) (v : Value) (h : Hs), Cnt l → l.length ≤ 1000 → Rd h v 2 (Rl l) → WP (R 44 [v] h) fun v' h' => New h h' (OR v' l)
def CTotal (R : RnK) : Prop := ∀ (l : List (Nat × Nat)) (v : Value) (h : Hs), Cnt l → l.length ≤ 1000 → Rd h v 2 (Rl l) → R 33 [v] h = some (.val (.int .i64 (.ofNat (sumR l))) h)
theorem cnt_sum {l : List (Nat × Nat)} (hc : Cnt l) : sumR l ≤ l.length * 4294967296 := sumR_le fun r hr => by have := hc r hr; omega
theorem total_ok {R : RnK} {N : Nat} (cc : CCounts R) {l : List (Nat × Nat)} {v : Value} {h : Hs} (hN : 100000 < N) (hc : Cnt l) (hb : l.length ≤ 1000) (r : Rd h v 2 (Rl l)) : r33 R N [v] h = some (.val (.int .i64 (.ofNat (sumR l))) h) := by
 refine WP.eqn ?_
 unfold r33
 have H := Sto.enter1 r
 have l1 := Rl_len l
 refine w_unC ?_
 refine w_enK ?_
 refine w_call (cc l v _ hc hb (H.rd 0 rfl)) fun v1 u1 n1 => ?_
 obtain ⟨a, c, rfl⟩ := n1.2.1.form
 replace H := H.call n1
 repeat' (first | (with_reducible first | refine w_jn ?_ | refine w_lenV ?_))
 refine lp_ind (Good := fun n (self : L4) => ∀ (i : Nat) (y1 y3 : Value) (m : List Th) (w : Hs), i + n = l.length → Sto h [] w (OR (.slice a l.length c) l :: m) → WP (self (.int .i64 (.ofNat i)) y1 (.int .i64 (.ofNat (sumR (l.take i)))) y3 w) (fun v' h' => v' = .int .i64 (.ofNat (sumR l)) ∧ h' = h)) (fun n self ih i y1 y3 m w hi H1 => ?_) N l.length (by omega) 0 _ _ _ _ (by omega) H
 clear H
 have H := H1
 clear H1
 have sm := cnt_sum (l := l.take i) fun r hr => hc r (List.mem_of_mem_take hr)
 rw [List.length_take] at sm
 repeat' (first | (with_reducible first | refine w_jn ?_ | refine w_cndT ?_ | refine w_cndF ?_) | ((with_reducible refine w_lss_NN (fun _ => ?_) (fun _ => ?_)) <;> first | (exfalso; omega) | skip))
 ·have ii : i < l.length := by omega
  refine w_atOR 0 H rfl ii rfl ?_
  have rb := hc _ (List.getElem_mem ii)
  have tk : sumR (l.take (i + 1)) = sumR (l.take i) + l[i].2 := by rw [List.take_add_one, List.getElem?_eq_getElem ii]; exact sumR_snoc _ _
  repeat' (first | (with_reducible refine w_fieldA ?_) | ((with_reducible refine w_alloc H ?_) ; (clear H; intro u H hu)) | ((with_reducible refine w_add_NN ?_ ?_) ; omega) | ((with_reducible apply w_load 0 H) ; rfl; rfl; rfl) | ((with_reducible apply w_storeV 0 H) ; rfl; rfl; rfl; omega; rfl; (clear H; intro u H hu; (try dsimp only [List.set_cons_zero, List.set_cons_succ, cellsL, List.toList_toArray, splice, ev, rep, List.cons_append, List.nil_append] at H))))
  rw [← tk]
  exact ih (n - 1) (by omega) (i + 1) _ _ m _ (by omega) H.tail
 ·rw [List.take_of_length_le (by omega)]
  exact w_clr H rfl ⟨rfl, rfl⟩
abbrev pV (p : Nat) : Value := .pointer (some ⟨p, 0, none⟩)
def setRun (B : List Nat) (yes : Bool) (r j : Nat) : List Nat := (List.range j).foldl (fun l i => setBit l yes ((r + i : Nat) : Int)) B
def setRuns (B : List Nat) (yes : Bool) (rs : List (Nat × Nat)) : List Nat := rs.foldl (fun l r => setRun l yes r.1 r.2) B
theorem setRun_succ (B : List Nat) (yes : Bool) (r j : Nat) : setRun B yes r (j + 1) = setBit (setRun B yes r j) yes ((r + j : Nat) : Int) := by unfold setRun; rw [List.range_succ, List.foldl_append]; rfl
theorem setRun_len (B : List Nat) (yes : Bool) (r : Nat) : ∀ j, (setRun B yes r j).length = B.length := by
 intro j
 induction j with
 | zero => rfl
 | succ j ih => rw [setRun_succ, setBit_len, ih]
theorem setRun_small {B : List Nat} (h : Small B) (yes : Bool) (r : Nat) : ∀ j, Small (setRun B yes r j) := by
 intro j
 induction j with
 | zero => exact h
 | succ j ih => rw [setRun_succ]; exact setBit_small ih _ _
theorem setRuns_snoc (B : List Nat) (yes : Bool) (rs : List (Nat × Nat)) (r : Nat × Nat) : setRuns B yes (rs ++ [r]) = setRun (setRuns B yes rs) yes r.1 r.2 := by unfold setRuns; rw [List.foldl_append]; rfl
theorem setRuns_len (yes : Bool) (rs : List (Nat × Nat)) : ∀ B : List Nat, (setRuns B yes rs).length = B.length := by
 induction rs with
 | nil => intro B; rfl
 | cons r rs ih => intro B; show (setRuns (setRun B yes r.1 r.2) yes rs).length = _; rw [ih, setRun_len]
theorem setRuns_small (yes : Bool) (rs : List (Nat × Nat)) : ∀ {B : List Nat}, Small B → Small (setRuns B yes rs) := by
 induction rs with
 | nil => intro B h; exact h
 | cons r rs ih => intro B h; exact ih (setRun_small h yes r.1 r.2)
def gI (b n c k : Int) : Value := .agg #[.int .i64 b, .int .i64 n, .int .i64 c, .int .i64 k]
def Neg (b n c k : Int) : Prop := b < 0 ∨ n < 0 ∨ c < 0 ∨ k < 0
theorem geo_or (b n c k : Int) : Neg b n c k ∨ ∃ g : Geo, gI b n c k = g.v ∧ b = g.b := by
 by_cases q : Neg b n c k
 ·exact .inl q
 ·unfold Neg at q
  obtain ⟨b', rfl⟩ := Int.eq_ofNat_of_zero_le (show 0 ≤ b by omega)
  obtain ⟨n', rfl⟩ := Int.eq_ofNat_of_zero_le (show 0 ≤ n by omega)
  obtain ⟨c', rfl⟩ := Int.eq_ofNat_of_zero_le (show 0 ≤ c by omega)
  obtain ⟨k', rfl⟩ := Int.eq_ofNat_of_zero_le (show 0 ≤ k by omega)
  exact .inr ⟨⟨b', n', c', k'⟩, rfl, rfl⟩
def CGoodNeg (R : RnK) : Prop := ∀ (b n c k : Int) (h : Hs), Neg b n c k → R 5 [gI b n c k] h = some (.val (.bool false) h)
theorem goodNeg_ok {R : RnK} {N : Nat} (ci : CIn R) {b n c k : Int} {h : Hs} (x : Neg b n c k) : r5 R N [gI b n c k] h = some (.val (.bool false) h) := by
 refine WP.eqn ?_
 unfold r5 gI
 unfold Neg at x
 have H := Sto.enter h
 repeat' (first | ((refine w_callB (ci.int _ _ _ _) (fun _ => ?_) (fun _ => ?_)) <;> first | (exfalso; omega) | skip) | (with_reducible first | refine w_jn ?_ | refine w_cndT ?_ | refine w_gFt ?_ | refine w_gFf ?_ | refine w_pickT ?_ | refine w_pickF ?_ | refine w_notT ?_ | refine w_notF ?_ | refine w_unC ?_ | refine w_enK ?_ | refine w_fieldA ?_) | ((with_reducible refine w_boxA H ?_) ; (clear H; intro u H hu)) | ((with_reducible apply w_load 0 H) ; rfl; rfl; rfl))
 all_goals exact w_clr H rfl ⟨rfl, rfl⟩
def BadG (b n c k : Int) : Prop := Neg b n c k ∨ ∃ g : Geo, gI b n c k = g.v ∧ ¬ g.Ok
theorem bad_good {R : RnK} (cg : CGood R) (cgn : CGoodNeg R) {b n c k : Int} (x : BadG b n c k) (u : Hs) : R 5 [gI b n c k] u = some (.val (.bool false) u) := by
 rcases x with q | ⟨g, q1, q2⟩
 ·exact cgn b n c k u q
 ·rw [q1, cg g u, decide_eq_false q2]
theorem bad_or (b n c k : Int) : BadG b n c k ∨ ∃ g : Geo, gI b n c k = g.v ∧ b = g.b ∧ g.Ok := by
 rcases geo_or b n c k with q | ⟨g, q1, q2⟩
 ·exact .inl (.inl q)
 ·by_cases x : g.Ok
  ·exact .inr ⟨g, q1, q2, x⟩
  ·exact .inl (.inr ⟨g, q1, x⟩)
def bitOf (l : List Nat) (i : Nat) : Bool := (l.getD (i / 64) 0).testBit (i % 64)
theorem putBit_bit {w k j : Nat} (hj : j < 64) (hk : k < 64) : (putBit w k true).testBit j = (w.testBit j || decide (j = k)) := by
 have h1 : 2 ^ k < 2 ^ 64 := Nat.pow_lt_pow_right (by omega) hk
 have h2 : (18446744073709551615 - 2 ^ k).testBit j = (decide (j < 64) && !(2 ^ k).testBit j) := by
  have := Nat.testBit_two_pow_sub_succ h1 j
  rw [← this]; congr 1; omega
 unfold putBit clrBit
 rw [if_pos rfl, Nat.testBit_or, Nat.testBit_and, h2, Nat.testBit_two_pow]
 by_cases e : j = k
 ·subst e; simp
 ·have e' : ¬ k = j := fun q => e q.symm
  simp [e, e', hj]
theorem setBit_bit {l : List Nat} {i k : Nat} (hi : i / 64 < l.length) : bitOf (setBit l true i) k = (bitOf l k || decide (k = i)) := by
 have e1 : ((i : Int)).toNat = i := rfl
 unfold setBit bitOf
 rw [if_pos ⟨by omega, by rw [e1]; exact hi⟩, e1]
 simp only [List.getD_eq_getElem?_getD, List.getElem?_set]
 by_cases e : i / 64 = k / 64
 ·rw [if_pos e, if_pos hi]
  rw [Option.getD_some, putBit_bit (Nat.mod_lt _ (by omega)) (Nat.mod_lt _ (by omega)), e]
  congr 1
  rw [decide_eq_decide]; omega
 ·rw [if_neg e]
  have : ¬ k = i := fun q => e (by rw [q])
  simp [this]
theorem bitsInit_succ (g : Geo) (m : Nat) : bitsInit g (m + 1) = bitStep g (bitsInit g m) m := by
 unfold bitsInit
 rw [List.range_succ, List.foldl_append]; rfl
theorem bitsInit_bit {g : Geo} {k : Nat} : ∀ {m : Nat}, m ≤ g.b → bitOf (bitsInit g m) k = decide (k < m ∧ (k < g.dataAt ∨ g.dataAt + g.dataN ≤ k)) := by
 intro m
 induction m with
 | zero =>
  intro _
  have : bitsInit g 0 = List.replicate ((g.b + 63) / 64) 0 := rfl
  rw [this]
  unfold bitOf
  rw [List.getD_eq_getElem?_getD, List.getElem?_replicate]
  split <;> simp
 | succ m ih =>
  intro hm
  have hl : (bitsInit g m).length = (g.b + 63) / 64 := bitsInit_len
  rw [bitsInit_succ]
  unfold bitStep
  split
  ·rw [setBit_bit (by rw [hl]; omega), ih (by omega)]
   rw [← Bool.decide_or, decide_eq_decide]; omega
  ·rw [ih (by omega), decide_eq_decide]; omega
set_option linter.unusedSimpArgs false
abbrev kI (n : Nat) : Value := .int .i64 (.ofNat n)
theorem hb_test (B : List Nat) (i : Nat) : hasBit B i = (decide (i / 64 < B.length) && bitOf B i) := by
 unfold hasBit bitOf
 rw [Nat.testBit_eq_decide_div_mod_eq, Nat.and_one_is_mod]
theorem putBit_any {w k j : Nat} {yes : Bool} (hj : j < 64) (hk : k < 64) : (putBit w k yes).testBit j = if j = k then yes else w.testBit j := by
 cases yes
 ·have h1 : 2 ^ k < 2 ^ 64 := Nat.pow_lt_pow_right (by omega) hk
  have h2 : (18446744073709551615 - 2 ^ k).testBit j = (decide (j < 64) && !(2 ^ k).testBit j) := by
   have := Nat.testBit_two_pow_sub_succ h1 j
   rw [← this]; congr 1; omega
  unfold putBit clrBit
  rw [if_neg (by decide), Nat.testBit_and, h2, Nat.testBit_two_pow]
  by_cases e : j = k
  ·subst e; simp
  ·have e' : ¬ k = j := fun q => e q.symm
   simp [e, e', hj]
 ·rw [putBit_bit hj hk]
  by_cases e : j = k <;> simp [e]
theorem hb_set {B : List Nat} {yes : Bool} {i : Nat} (hi : i < 64 * B.length) (k : Nat) : hasBit (setBit B yes (i : Int)) k = if k = i then yes else hasBit B k := by
 rw [hb_test, hb_test, setBit_len]
 have e1 : ((i : Int)).toNat = i := rfl
 have hl : i / 64 < B.length := by omega
 unfold setBit bitOf
 rw [if_pos ⟨by omega, by rw [e1]; exact hl⟩, e1]
 simp only [List.getD_eq_getElem?_getD, List.getElem?_set]
 by_cases e : i / 64 = k / 64
 ·rw [if_pos e, if_pos hl, Option.getD_some, putBit_any (Nat.mod_lt _ (by omega)) (Nat.mod_lt _ (by omega)), e, ← e, decide_eq_true hl, Bool.true_and, Bool.true_and]
  by_cases q : k = i
  ·rw [if_pos (by omega), if_pos q]
  ·rw [if_neg (by omega), if_neg q]
 ·rw [if_neg e, if_neg (fun q => e (by rw [q]))]
theorem hb_run {B : List Nat} {yes : Bool} {r : Nat} : ∀ {j : Nat}, r + j ≤ 64 * B.length → ∀ k, hasBit (setRun B yes r j) k = if r ≤ k ∧ k < r + j then yes else hasBit B k := by
 intro j
 induction j with
 | zero => intro _ k; rw [if_neg (by omega)]; rfl
 | succ j ih =>
  intro h k
  rw [setRun_succ, hb_set (by rw [setRun_len]; omega), ih (by omega)]
  by_cases e : k = r + j
  ·rw [if_pos e, if_pos (by omega)]
  ·rw [if_neg e]
   by_cases q : r ≤ k ∧ k < r + j
   ·rw [if_pos q, if_pos (by omega)]
   ·rw [if_neg q, if_neg (by omega)]
def inR (l : List (Nat × Nat)) (k : Nat) : Prop := ∃ r ∈ l, r.1 ≤ k ∧ k < r.1 + r.2
theorem hb_runs {yes : Bool} : ∀ {l : List (Nat × Nat)} {B : List Nat}, (∀ r ∈ l, r.1 + r.2 ≤ 64 * B.length) → ∀ k, (inR l k → hasBit (setRuns B yes l) k = yes) ∧ (¬ inR l k → hasBit (setRuns B yes l) k = hasBit B k) := by
 intro l
 induction l with
 | nil => intro B _ k; exact ⟨fun z => z.elim fun _ q => (List.not_mem_nil q.1).elim, fun _ => rfl⟩
 | cons r l ih =>
  intro B h k
  have h1 := h r (List.mem_cons_self ..)
  have := ih (B := setRun B yes r.1 r.2) (fun q hq => by rw [setRun_len]; exact h q (List.mem_cons_of_mem _ hq)) k
  have e : setRuns B yes (r :: l) = setRuns (setRun B yes r.1 r.2) yes l := rfl
  rw [e]
  by_cases q : inR l k
  ·exact ⟨fun _ => this.1 q, fun z => absurd (show inR (r :: l) k from q.elim fun a b => ⟨a, List.mem_cons_of_mem _ b.1, b.2⟩) z⟩
  ·rw [this.2 q, hb_run h1]
   refine ⟨fun z => ?_, fun z => if_neg fun y => z ⟨r, List.mem_cons_self .., y⟩⟩
   obtain ⟨a, ha, hb⟩ := z
   rcases List.mem_cons.1 ha with rfl | ha
   ·exact if_pos hb
   ·exact absurd ⟨a, ha, hb⟩ q
def QNext (f : Nat → Bool) (yes : Bool) (a e : Nat) (v : Value) : Prop :=
 (∃ x, v = .tuple #[kI x, .bool true] ∧ a ≤ x ∧ x < e ∧ f x = yes ∧ ∀ y, a ≤ y → y < x → f y ≠ yes) ∨ (v = .tuple #[kI 0, .bool false] ∧ ∀ y, a ≤ y → y < e → f y ≠ yes)
def CNext (R : RnK) : Prop := ∀ (B : List Nat) (yes : Bool) (a e : Nat) (v : Value) (h : Hs), Small B → B.length < 10000 → e ≤ 64 * B.length → Rd h v 1 (Wl B) → WP (R 40 [.agg #[v], .bool yes, kI a, kI e] h) fun r u => u = h ∧ QNext (hasBit B) yes a e r
theorem next_ok {R : RnK} {N : Nat} (ct : CThere R) (ch : CHas R) {B : List Nat} {yes : Bool} {a e : Nat} {v : Value} {h : Hs} (hN : 1000000 ≤ N) (sm : Small B) (hb : B.length < 10000) (he : e ≤ 64 * B.length) (r : Rd h v 1 (Wl B)) :
 WP (r40 R N [.agg #[v], .bool yes, kI a, kI e] h) fun r u => u = h ∧ QNext (hasBit B) yes a e r := by
 unfold r40
 have H := Sto.enter1 r
 obtain ⟨ad, c, rfl⟩ := r.1.formN (Wl_len B)
 have l1 := Wl_len B
 repeat' (first | (with_reducible first | refine w_jn ?_ | refine w_unC ?_ | refine w_enK ?_ | refine w_max_NN ?_) | ((with_reducible refine w_boxA H ?_) ; (clear H; intro u H hu)))
 rw [Nat.max_eq_left (Nat.zero_le a)]
 obtain ⟨m0, hm0, H0⟩ : ∃ m0, m0 = _ ∧ Sto h [] _ m0 := ⟨_, rfl, H⟩
 refine lp_ind (Good := fun n (self : L5) => ∀ (i : Nat) (y1 y2 y3 y4 : Value) (w : Hs), a ≤ i → e ≤ i + n → (∀ y, a ≤ y → y < i → hasBit B y ≠ yes) → Sto h [] w m0 → WP (self (kI i) y1 y2 y3 y4 w) (fun r u => u = h ∧ QNext (hasBit B) yes a e r)) (fun n self ih i y1 y2 y3 y4 w ha hi hq H1 => ?_) N e (by omega) a _ _ _ _ _ (Nat.le_refl _) (by omega) (fun y h1 h2 => by omega) (by rw [hm0]; exact H)
 clear H H0
 have hm1 := hm0
 rw [hm0] at H1
 have H := H1
 clear H1
 repeat' (first | (with_reducible first | refine w_jn ?_ | refine w_cndF ?_ | refine w_gTt ?_ | refine w_gTf ?_ | refine w_pickF ?_) | ((with_reducible refine w_lss_NN (fun _ => ?_) (fun _ => ?_)) <;> first | (exfalso; omega) | skip) | ((with_reducible apply w_loadsF 0 H) ; rfl; rfl; rfl))
 ·refine w_callB (ct _ B (i : Int) _ (by omega) (by omega) (H.rd 1 rfl)) (fun q => ?_) (fun q => absurd ⟨by omega, by show i / 64 < _; omega⟩ q)
  repeat' (first | (with_reducible first | refine w_jn ?_ | refine w_cndT ?_ | refine w_pickT ?_) | ((with_reducible apply w_loadsF 0 H) ; rfl; rfl; rfl))
  refine w_callE (ch B i _ _ sm (by omega) (by omega) (H.rd 1 rfl)) ?_
  refine w_ob (v := .bool (hasBit B i == yes)) (by cases hasBit B i <;> cases yes <;> rfl) ?_
  by_cases q : hasBit B i = yes
  ·rw [show (hasBit B i == yes) = true from by simpa using q]
   repeat' (first | (with_reducible first | refine w_jn ?_ | refine w_cndT ?_))
   exact w_clr H rfl ⟨rfl, .inl ⟨i, rfl, ha, by assumption, q, hq⟩⟩
  ·rw [show (hasBit B i == yes) = false from by simpa using q]
   repeat' (first | (with_reducible first | refine w_jn ?_ | refine w_cndF ?_) | ((with_reducible refine w_add_NN ?_ ?_) ; omega))
   exact ih (n - 1) (by omega) (i + 1) _ _ _ _ _ (by omega) (by omega) (fun y h1 h2 => by
    by_cases z : y = i
    ·subst z; exact q
    ·exact hq y h1 (by omega)) (by rw [hm1]; exact H)
 ·exact w_clr H rfl ⟨rfl, .inr ⟨rfl, fun y h1 h2 => hq y h1 (by omega)⟩⟩
def cntF (f : Nat → Bool) : Nat → Nat
 | 0 => 0
 | n + 1 => cntF f n + if f n then 1 else 0
theorem cntF_le (f : Nat → Bool) : ∀ n, cntF f n ≤ n := by
 intro n
 induction n with
 | zero => exact Nat.le_refl _
 | succ n ih => unfold cntF; split <;> omega
def CCount (R : RnK) : Prop := ∀ (B : List Nat) (v : Value) (h : Hs), Small B → B.length < 1000 → Rd h v 1 (Wl B) → R 21 [.agg #[v]] h = some (.val (kI (cntF (hasBit B) (64 * B.length))) h)
theorem count_ok {R : RnK} {N : Nat} (ch : CHas R) {B : List Nat} {v : Value} {h : Hs} (hN : 1000000 ≤ N) (sm : Small B) (hb : B.length < 1000) (r : Rd h v 1 (Wl B)) : r21 R N [.agg #[v]] h = some (.val (kI (cntF (hasBit B) (64 * B.length))) h) := by
 refine WP.eqn ?_
 unfold r21
 have H := Sto.enter1 r
 obtain ⟨ad, c, rfl⟩ := r.1.formN (Wl_len B)
 have l1 := Wl_len B
 repeat' (first | (with_reducible first | refine w_jn ?_ | refine w_unC ?_ | refine w_enK ?_ | refine w_fieldA ?_ | refine w_lenV ?_) | ((with_reducible refine w_boxA H ?_) ; (clear H; intro u H hu)) | ((with_reducible refine w_mul_NN ?_ ?_) ; omega) | ((with_reducible apply w_load 0 H) ; rfl; rfl; rfl))
 obtain ⟨m0, hm0, H0⟩ : ∃ m0, m0 = _ ∧ Sto h [] _ m0 := ⟨_, rfl, H⟩
 refine lp_ind (Good := fun n (self : L5) => ∀ (i : Nat) (y1 y2 y3 : Value) (w : Hs), i + n = 64 * B.length → Sto h [] w m0 → WP (self (kI i) y1 y2 y3 (kI (cntF (hasBit B) i)) w) (fun r u => r = kI (cntF (hasBit B) (64 * B.length)) ∧ u = h)) (fun n self ih i y1 y2 y3 w hi H1 => ?_) N (64 * B.length) (by omega) 0 _ _ _ _ (by omega) (by rw [hm0]; exact H)
 clear H H0
 have hm1 := hm0
 rw [hm0] at H1
 have H := H1
 clear H1
 have cl := cntF_le (hasBit B) i
 repeat' (first | (with_reducible first | refine w_jn ?_ | refine w_cndT ?_ | refine w_cndF ?_) | ((with_reducible refine w_lss_NN (fun _ => ?_) (fun _ => ?_)) <;> first | (exfalso; omega) | skip) | ((with_reducible apply w_loadsF 0 H) ; rfl; rfl; rfl))
 ·refine w_callE (ch B i _ _ sm (by omega) (by omega) (H.rd 1 rfl)) ?_
  have sc : cntF (hasBit B) (i + 1) = cntF (hasBit B) i + if hasBit B i then 1 else 0 := rfl
  cases q : hasBit B i with
  | true =>
   rw [q, if_pos rfl] at sc
   repeat' (first | (with_reducible first | refine w_jn ?_ | refine w_cndT ?_) | ((with_reducible refine w_add_NN ?_ ?_) ; omega))
   rw [← sc]
   exact ih (n - 1) (by omega) (i + 1) _ _ _ _ (by omega) (by rw [hm1]; exact H)
  | false =>
   replace sc : cntF (hasBit B) (i + 1) = cntF (hasBit B) i := by rw [sc, q]; rfl
   rw [← sc]
   repeat' (first | (with_reducible first | refine w_jn ?_ | refine w_cndF ?_) | ((with_reducible refine w_add_NN ?_ ?_) ; omega))
   exact ih (n - 1) (by omega) (i + 1) _ _ _ _ (by omega) (by rw [hm1]; exact H)
 ·rw [show i = 64 * B.length by omega]
  exact w_clr H rfl ⟨rfl, rfl⟩
set_option linter.unusedSimpArgs false
theorem w_clrN {Q : Value → Hs → Prop} {h0 h : Hs} {m : List Th} {v : Value} (H : Sto h0 [] h m) (e : mvAll h.hp h0.nx ⟨h0.hp, h0.nx, []⟩ v = none) (q : Q v ⟨h.hp, h.nx, h0.lo⟩) : WP (clrK h0 v h) Q := by
 have e1 : clrK h0 v h = clear2 h0 v h (mvAll h.hp h0.nx ⟨h0.hp, h0.nx, []⟩ v) := by
  rw [clrK_eq, show Nat.blt h.lo h0.nx = false from by rw [blt_eq]; simpa using H.lo0]; rfl
 rw [e1, e]
 exact ⟨v, _, rfl, q⟩
theorem mvAll_stay {h0 h : Hs} {b n e u : Nat} {c : Tr Value} {r : Bool} {v : Value} (hb : h0.nx ≤ b) (hg : h.hp.get b = some (.row c n e u r false)) : mvAll h.hp h0.nx ⟨h0.hp, h0.nx, []⟩ (.tuple #[.pointer (some ⟨b, 0, none⟩), v]) = none := by
 have e1 : mvId h.hp h0.nx ⟨h0.hp, h0.nx, []⟩ b = none := by
  unfold mvId
  rw [show Nat.blt b h0.nx = false from by rw [blt_eq]; exact decide_eq_false (by omega)]
  show mvNew _ b (h.hp.get b) = none
  rw [hg]; rfl
 have e2 : mvPart h.hp h0.nx ⟨h0.hp, h0.nx, []⟩ (.pointer (some ⟨b, 0, none⟩)) = none := by
  simp only [mvPart, mvCell, mvAddr, e1, atNew]
 simp only [mvAll, mvParts, e2, mvCons, mvWrap]
theorem w_boxMG {Q : Value → Hs → Prop} {h0 h : Hs} {S : List Nat} {m : List Th} {t : Nat} {cs : List Value} {en : En} {F : KV} (H : Sto h0 S h m) (kk : ∀ h', Sto h0 S h' (.blk h.nx (.row t 0 true (flatL cs) cs) :: m) → h'.nx = h.nx + 1 → h'.hp.get h.nx = some (.row (ofList cs) cs.length t 0 true (flatL cs)) → WP (F (.pointer (some ⟨h.nx, 0, none⟩)) h') Q) :
 WP (after (fun v u => dPut F v (dNext h u .make) (andB (dFit h u .make) (Nat.ble 0 u.lo))) (oBox t (.c (.agg cs.toArray)) en (Hs.mk .e h.nx h.nx))) Q := by
 show WP (dPut F (.pointer (some ⟨h.nx, 0, none⟩)) (dNext h (Gev.newRow ⟨.e, h.nx, h.nx⟩ t 0 cs) .make) (andB (dFit h (Gev.newRow ⟨.e, h.nx, h.nx⟩ t 0 cs) .make) (Nat.ble 0 h.nx))) Q
 rw [(H.rowM (t := t) (u := 0) (cs := cs)).1, ble_zero]
 refine kk _ H.rowM.2 rfl ?_
 show (backN _ (Nat.sub (h.nx + 1) h.nx) h.nx h.hp).get h.nx = _
 rw [backN_get, show Nat.sub (h.nx + 1) h.nx = 1 from by show h.nx + 1 - h.nx = 1; omega, if_pos (by omega), newRow_get, if_pos rfl]
def CEmpty (R : RnK) : Prop := ∀ (g : Geo) (h : Hs), g.Ok → WP (R 7 [g.v] h) fun v h' => ∃ s, v = .agg #[s] ∧ New h h' (OW s (bitsInit g g.b))
theorem bitsInit_len2 (g : Geo) (i : Nat) : (bitsInit g i).length = (g.b + 63) / 64 := bitsInit_len
theorem empty_ok {R : RnK} {N : Nat} (cd : CDataF R) (cn : CBitsNew R) (cs : CBitsSet R) {g : Geo} {h : Hs} (hN : 1000000 ≤ N) (x : g.Ok) : WP (r7 R N [g.v] h) fun v h' => ∃ s, v = .agg #[s] ∧ New h h' (OW s (bitsInit g g.b)) := by
 have cdg := cd g
 unfold Geo.v at cdg
 unfold r7 Geo.v
 have H := Sto.enter h
 have x1 := x.1.b2
 have x2 := x.2
 have x3 := x.1.num
 have x4 : g.dataN = g.b - 1 - g.dataAt := rfl
 repeat' (first | (refine w_callE (cdg _ x) ?_) | (with_reducible first | refine w_unC ?_ | refine w_enK ?_ | refine w_fieldA ?_) | ((with_reducible apply w_extr) ; rfl) | ((with_reducible refine w_boxA H ?_) ; (clear H; intro u H hu)) | ((with_reducible refine w_alloc H ?_) ; (clear H; intro u H hu)) | ((with_reducible apply w_load 1 H) ; rfl; rfl; rfl) | ((with_reducible apply w_loadsF 1 H) ; rfl; rfl; rfl))
 refine w_call (cn g.b _ (by omega)) fun v u n => ?_
 obtain ⟨s, rfl, n⟩ := n
 obtain ⟨sa, sc, rfl⟩ := n.2.1.form
 replace H := H.call n
 simp only [List.length_replicate] at H ⊢
 repeat' (first | (with_reducible first | refine w_jn ?_ | refine w_st1A ?_) | ((with_reducible refine w_alloc H ?_) ; (clear H; intro u H hu)) | ((with_reducible apply w_storeV 0 H) ; rfl; rfl; rfl; omega; rfl; (clear H; intro u H hu; (try dsimp only [List.set_cons_zero, List.set_cons_succ, cellsL, List.toList_toArray, splice, ev, rep, List.cons_append, List.nil_append] at H))))
 rename_i ua ha ub hb uc ud hd
 replace H := H.unfl 0 rfl
 dsimp only [List.set_cons_zero] at H
 generalize hL : (g.b + 63) / 64 = L at *
 have li : ∀ i, (bitsInit g i).length = L := fun i => by rw [bitsInit_len2, hL]
 have e0 : ∀ v, OW v (List.replicate L 0) = .osl v 58 1 true L (Wc (bitsInit g 0)) := fun v => by
  rw [show bitsInit g 0 = List.replicate L 0 from by rw [← hL]; rfl]
  show Th.osl v _ 1 true (List.replicate L 0).length _ = _
  rw [List.length_replicate]
 rw [e0] at H
 obtain ⟨m0, hm0, H0⟩ : ∃ m0, m0 = _ ∧ Sto h [] _ m0 := ⟨_, rfl, H⟩
 refine lp_ind (Good := fun n (self : L3) => ∀ (i : Nat) (y1 y2 : Value) (w : Hs) (a : Option Addr) (c' : Nat), i + n = g.b → Sto h [] w ((m0.set 0 (.blk uc.nx (.row 33 0 true false [.slice a L c']))).set 1 (.osl (.slice a L c') 58 1 true L (Wc (bitsInit g i)))) → WP (self (kI i) y1 y2 w) (fun v h' => ∃ s, v = .agg #[s] ∧ New h h' (OW s (bitsInit g g.b)))) (fun n self ih i y1 y2 w a c' hi H1 => ?_) N g.b (by omega) 0 _ _ _ sa sc (by omega) (by rw [hm0]; exact H)
 clear H0 H
 have hm1 := hm0
 rw [hm0] at H1
 have H := H1
 clear H1
 dsimp only [List.set_cons_zero, List.set_cons_succ] at H
 have li2 := li i
 have st : bitsInit g (i + 1) = bitStep g (bitsInit g i) i := bitsInit_succ g i
 have le1 : ∀ q ∈ [((i : Nat) : Int)], q ≤ 9223372036854775807 := by
  intro q hq
  simp only [List.mem_singleton] at hq
  omega
 have bsm : Small (bitsInit g i) := bitsInit_small
 repeat' (first | (with_reducible first | refine w_jn ?_ | refine w_cndT ?_ | refine w_cndF ?_ | refine w_gFt ?_ | refine w_gFf ?_ | refine w_pickT ?_ | refine w_pickF ?_ | refine w_fieldA ?_ | refine w_st1A ?_) | ((with_reducible apply w_mkrow H) ; rfl; (clear H; intro u H hu; (try dsimp only [List.set_cons_zero, List.set_cons_succ, cellsL, List.toList_toArray, splice, ev, rep, List.cons_append, List.nil_append] at H))) | ((with_reducible first | refine w_lss_NN (fun _ => ?_) (fun _ => ?_) | refine w_geq_NN (fun _ => ?_) (fun _ => ?_)) <;> first | (exfalso; omega) | skip) | ((with_reducible refine w_add_NN ?_ ?_) ; omega) | ((with_reducible apply w_loadsF 0 H) ; rfl; rfl; rfl) | ((with_reducible apply w_storeV 2 H) ; rfl; rfl; rfl; omega; rfl; (clear H; intro u H hu; (try dsimp only [List.set_cons_zero, List.set_cons_succ, cellsL, List.toList_toArray, splice, ev, rep, List.cons_append, List.nil_append] at H))) | ((with_reducible apply w_retC 2 H) ; rfl; rfl; rfl) | ((with_reducible apply w_load 3 H) ; rfl; rfl; rfl))
 all_goals first
  | (have rdw := H.rdO 2 rfl
     rw [← Wl_ones] at rdw
     refine w_call (cs (bitsInit g i) true [((i : Nat) : Int)] _ _ _ bsm (by omega) (by simp) le1 rdw (H.rdB (L := [kI i]) (n := 1) (c := 1) 0 rfl rfl (Nat.le_refl _))) fun v6 u6 n6 => ?_
     obtain ⟨s6, rfl, n6⟩ := n6
     have sb : setBits (bitsInit g i) true [((i : Nat) : Int)] = bitsInit g (i + 1) := by rw [st]; exact (if_pos (by omega)).symm
     rw [sb] at n6
     unfold OW at n6
     rw [li] at n6
     obtain ⟨a6, c6, rfl⟩ := n6.2.1.form
     replace H := H.call n6
     repeat' (first | (with_reducible refine w_st1A ?_) | ((with_reducible refine w_add_NN ?_ ?_) ; omega) | ((with_reducible apply w_storeV 2 H) ; rfl; rfl; rfl; omega; rfl; (clear H; intro u H hu; (try dsimp only [List.set_cons_zero, List.set_cons_succ, cellsL, List.toList_toArray, splice, ev, rep, List.cons_append, List.nil_append] at H))))
     replace H := H.sel [2, 0, 4, 5] 6 rfl (by decide) (by decide); dsimp only [List.filterMap_cons, List.filterMap_nil, List.getElem?_cons_zero, List.getElem?_cons_succ] at H
     replace H := H.unfl 0 rfl
     dsimp only [List.set_cons_zero] at H
     exact ih (n - 1) (by omega) (i + 1) _ _ _ a6 c6 (by omega) (by rw [hm1]; exact H))
  | (refine ih (n - 1) (by omega) (i + 1) _ _ _ a c' (by omega) ?_
     rw [st, show bitStep g (bitsInit g i) i = bitsInit g i from if_neg (by omega), hm1]
     exact H)
  | skip
 obtain rfl : i = g.b := by omega
 refine w_clrC (fun v => .agg #[v]) 1 H rfl (fun _ _ _ => by simp [blkV, blkP]) (fun _ _ _ _ => rfl) fun v' h' n => ⟨_, rfl, ?_⟩
 show New h h' (.osl v' 58 1 true (bitsInit g g.b).length _)
 rw [li]; exact n
def plC (g : Geo) (s : Value) : List Value := [kI g.b, kI g.n, kI g.c, kI g.k, s]
def scan (f : Nat → Bool) : Nat → Nat → Nat → List (Nat × Nat)
 | 0, i, row => if 0 < row then [(i - row, row)] else []
 | n + 1, i, row => if f i then (if 0 < row then (i - row, row) :: scan f n (i + 1) 0 else scan f n (i + 1) 0) else scan f n (i + 1) (row + 1)
theorem scan_skip {f : Nat → Bool} : ∀ {n i k : Nat}, k ≤ n → (∀ y, i ≤ y → y < i + k → f y = true) → scan f n i 0 = scan f (n - k) (i + k) 0 := by
 intro n i k
 induction k generalizing n i with
 | zero => intro _ _; rfl
 | succ k ih =>
  intro hn hf
  obtain ⟨n, rfl⟩ : ∃ m, n = m + 1 := ⟨n - 1, by omega⟩
  have : scan f (n + 1) i 0 = scan f n (i + 1) 0 := by
   show (if f i then _ else _) = _
   rw [if_pos (hf i (Nat.le_refl _) (by omega)), if_neg (by omega)]
  rw [this, ih (by omega) (fun y h1 h2 => hf y (by omega) (by omega)), show n + 1 - (k + 1) = n - k by omega, show i + 1 + k = i + (k + 1) by omega]
theorem scan_take {f : Nat → Bool} : ∀ {k n i row : Nat}, k ≤ n → (∀ y, i ≤ y → y < i + k → f y = false) → scan f n i row = scan f (n - k) (i + k) (row + k) := by
 intro k
 induction k with
 | zero => intro n i row _ _; rfl
 | succ k ih =>
  intro n i row hn hf
  obtain ⟨n, rfl⟩ : ∃ m, n = m + 1 := ⟨n - 1, by omega⟩
  have : scan f (n + 1) i row = scan f n (i + 1) (row + 1) := by
   show (if f i then _ else _) = _
   rw [if_neg (by rw [hf i (Nat.le_refl _) (by omega)]; decide)]
  rw [this, ih (by omega) (fun y h1 h2 => hf y (by omega) (by omega)), show n + 1 - (k + 1) = n - k by omega, show i + 1 + k = i + (k + 1) by omega, show row + 1 + k = row + (k + 1) by omega]
def rowsF (f : Nat → Bool) (a e : Nat) : List (Nat × Nat) := scan f (e - a) a 0
theorem rowsF_none {f : Nat → Bool} {a e : Nat} (hq : ∀ y, a ≤ y → y < e → f y ≠ false) : rowsF f a e = [] := by
 unfold rowsF
 rw [scan_skip (Nat.le_refl _) (fun y h1 h2 => by have := hq y h1 (by omega); simpa using this), Nat.sub_self]
 rfl
theorem rowsF_end {f : Nat → Bool} {a x e : Nat} (h1 : a ≤ x) (h2 : x < e) (hq : ∀ y, a ≤ y → y < x → f y ≠ false) (hx : ∀ y, x ≤ y → y < e → f y ≠ true) : rowsF f a e = [(x, e - x)] := by
 unfold rowsF
 rw [scan_skip (k := x - a) (by omega) (fun y h1 h2 => by have := hq y h1 (by omega); simpa using this), scan_take (k := e - x) (by omega) (fun y h3 h4 => by have := hx y (by omega) (by omega); simpa using this)]
 rw [show e - a - (x - a) - (e - x) = 0 by omega]
 show (if 0 < _ then _ else _) = _
 rw [if_pos (by omega)]
 congr 2
 ·omega
 ·omega
theorem rowsF_row {f : Nat → Bool} {a x z e : Nat} (h1 : a ≤ x) (h2 : x < z) (h3 : z < e) (hq : ∀ y, a ≤ y → y < x → f y ≠ false) (hx : ∀ y, x ≤ y → y < z → f y ≠ true) (hz : f z = true) : rowsF f a e = (x, z - x) :: rowsF f z e := by
 unfold rowsF
 rw [scan_skip (k := x - a) (by omega) (fun y h1 h2 => by have := hq y h1 (by omega); simpa using this), scan_take (k := z - x) (by omega) (fun y h3 h4 => by have := hx y (by omega) (by omega); simpa using this)]
 rw [show e - a - (x - a) - (z - x) = e - z - 1 + 1 by omega, show a + (x - a) + (z - x) = z by omega, show e - z = e - z - 1 + 1 by omega]
 show (if f z then (if 0 < _ then _ else _) else _) = _ :: (if f z then (if 0 < 0 then _ else _) else _)
 rw [if_pos hz, if_pos hz, if_pos (by omega), if_neg (by omega), Nat.zero_add, show z - (z - x) = x by omega, show e - z - 1 + 1 - 1 = e - z - 1 by omega]
set_option linter.unusedSimpArgs false
abbrev plO (g : Geo) (v : Value) : Gev.Obj := .row 65 0 true false (plC g v)
structure PlAt (h : Hs) (g : Geo) (p : Nat) (v : Value) (W : List Nat) : Prop where
 ok : g.Ok
 b2 : g.b ≤ 200
 pl : p < h.nx
 row : Holds (h.hp.get p) (plO g v)
 rd : Rd h v 1 (Wl W)
 ne : Th.id (.rsl v 1 (Wl W)) ≠ some p
 len : W.length = (g.b + 63) / 64
 sm : Small W
theorem PlAt.enter {h : Hs} {g : Geo} {p : Nat} {v : Value} {W : List Nat} (A : PlAt h g p v W) : Sto h [] ⟨h.hp, h.nx, h.nx⟩ [.rob p (plO g v), .rsl v 1 (Wl W)] := Sto.enterR h _ fun t ht => by
 simp only [List.mem_cons, List.not_mem_nil, or_false] at ht
 rcases ht with rfl | rfl
 ·exact ⟨rfl, A.row, fun b hb => by injection hb with e; subst e; exact A.pl⟩
 ·exact ⟨rfl, A.rd.1, fun b hb => A.rd.2 b hb⟩
theorem PlAt.of {h0 h : Hs} {S : List Nat} {m : List Th} {g : Geo} {p : Nat} {v : Value} {W : List Nat} (i j : Nat) (H : Sto h0 S h m) (hi : m[i]? = some (.blk p (plO g v))) (hj : m[j]? = some (.rsl v 1 (Wl W))) (hij : i ≠ j) (x : g.Ok) (x2 : g.b ≤ 200) (hl : W.length = (g.b + 63) / 64) (sm : Small W) : PlAt h g p v W :=
 ⟨x, x2, H.lt i hi, H.holds i hi, H.rd j hj, H.neR hi hj hij, hl, sm⟩
theorem PlAt.of2 {h0 h : Hs} {S : List Nat} {m : List Th} {g : Geo} {p : Nat} {v : Value} {W : List Nat} (i j : Nat) (H : Sto h0 S h m) (hi : m[i]? = some (.rob p (plO g v))) (hj : m[j]? = some (.rsl v 1 (Wl W))) (hne : Th.id (.rsl v 1 (Wl W)) ≠ some p) (x : g.Ok) (x2 : g.b ≤ 200) (hl : W.length = (g.b + 63) / 64) (sm : Small W) : PlAt h g p v W :=
 ⟨x, x2, (H.ids _ (List.mem_of_getElem? hi) p rfl).1, H.ok _ (List.mem_of_getElem? hi), H.rd j hj, hne, hl, sm⟩
abbrev rowsP (g : Geo) (W : List Nat) : List (Nat × Nat) := rowsF (hasBit W) g.dataAt (g.dataAt + g.dataN)
def CRows (R : RnK) : Prop := ∀ (g : Geo) (p : Nat) (v : Value) (W : List Nat) (h : Hs), PlAt h g p v W → WP (R 27 [pV p] h) fun v h' => New h h' (OR v (rowsP g W))
theorem Geo.Ok.dt {g : Geo} (x : g.Ok) : g.dataAt + g.dataN + 1 = g.b ∧ 1 ≤ g.dataN ∧ g.b ≤ 1024 ∧ 64 ≤ g.b ∧ g.dataAt + g.dataN ≤ 64 * ((g.b + 63) / 64) := by
 have x1 := x.1.b2
 have x2 := x.2
 have x3 := x.1.b1
 have x4 : g.dataN = g.b - 1 - g.dataAt := rfl
 omega
theorem rows_ok {R : RnK} {N : Nat} (cd : CDataF R) (cn : CNext R) {g : Geo} {p : Nat} {v : Value} {W : List Nat} {h : Hs} (hN : 1000000 ≤ N) (A : PlAt h g p v W) : WP (r27 R N [pV p] h) fun v h' => New h h' (OR v (rowsP g W)) := by
 have cdg := cd g
 unfold Geo.v at cdg
 unfold r27
 have H := A.enter
 obtain ⟨x1, x2, x3, x4, x5⟩ := A.ok.dt
 have ln := A.len
 have sm := A.sm
 have lw := Wl_len W
 obtain ⟨va, vc, rfl⟩ := A.rd.1.formN lw
 unfold plO plC at H
 repeat' (first | (refine w_callE (cdg _ A.ok) ?_) | (with_reducible first | refine w_jn ?_ | refine w_unC ?_ | refine w_enK ?_ | refine w_fieldA ?_ | refine w_nil ?_) | ((with_reducible apply w_extr) ; rfl) | ((with_reducible refine w_add_NN ?_ ?_) ; omega) | ((with_reducible apply w_loadsR 0 H) ; rfl; rfl; rfl; rfl; (try dsimp only [List.drop_zero, List.drop_succ_cons, List.take_succ_cons, List.take_zero])))
 replace H := H.nilS 52 2
 refine lp_ind (Good := fun n (self : L7) => ∀ (a : Nat) (out : List (Nat × Nat)) (y1 y2 cur y4 y5 y6 : Value) (w : Hs), g.dataAt + g.dataN < a + n → out.length + n ≤ 2000 → a ≤ g.dataAt + g.dataN → out ++ rowsF (hasBit W) a (g.dataAt + g.dataN) = rowsP g W → Sto h [] w [OR cur out, .rob p (plO g (.slice va W.length vc)), .rsl (.slice va W.length vc) 1 (Wl W)] → WP (self (kI a) y1 y2 cur y4 y5 y6 w) (fun v h' => New h h' (OR v (rowsP g W)))) (fun n self ih a out y1 y2 cur y4 y5 y6 w ha ho hle hq H1 => ?_) N 1500 (by omega) g.dataAt [] _ _ _ _ _ _ _ (by omega) (by decide) (by omega) rfl H
 clear H
 have H := H1
 clear H1
 obtain ⟨ac, cc, rfl⟩ := (show OwnSl w cur 52 2 _ _ _ from H.ok _ (List.mem_of_getElem? (i := 0) rfl)).form
 unfold plO plC at H
 repeat' (first | (with_reducible first | refine w_jn ?_ | refine w_fieldA ?_ | refine w_nil ?_) | ((with_reducible apply w_loadsR 1 H) ; rfl; rfl; rfl; rfl; (try dsimp only [List.drop_zero, List.drop_succ_cons, List.take_succ_cons, List.take_zero])))
 refine w_call (cn W false a (g.dataAt + g.dataN) _ _ sm (by omega) (by omega) (H.rd 2 rfl)) fun r1 u1 h1 => ?_
 obtain ⟨rfl, h1⟩ := h1
 rcases h1 with ⟨x, rfl, xa, xe, xf, xq⟩ | ⟨rfl, xq⟩
 ·repeat' (first | (with_reducible first | refine w_jn ?_ | refine w_cndF ?_ | refine w_notT ?_ | refine w_fieldA ?_ | refine w_nil ?_) | ((with_reducible apply w_extr) ; rfl) | ((with_reducible apply w_loadsR 1 H) ; rfl; rfl; rfl; rfl; (try dsimp only [List.drop_zero, List.drop_succ_cons, List.take_succ_cons, List.take_zero])))
  refine w_call (cn W true x (g.dataAt + g.dataN) _ _ sm (by omega) (by omega) (H.rd 2 rfl)) fun r2 u2 h2 => ?_
  obtain ⟨rfl, h2⟩ := h2
  have fin : ∀ z, x < z → z ≤ g.dataAt + g.dataN → rowsF (hasBit W) a (g.dataAt + g.dataN) = (x, z - x) :: rowsF (hasBit W) z (g.dataAt + g.dataN) → True := fun _ _ _ _ => trivial
  have go : ∃ z b, r2 = .tuple #[if b then kI z else kI 0, .bool b] ∧ (b = false → z = g.dataAt + g.dataN) ∧ x < z ∧ z ≤ g.dataAt + g.dataN ∧ rowsF (hasBit W) a (g.dataAt + g.dataN) = (x, z - x) :: rowsF (hasBit W) z (g.dataAt + g.dataN) := by
   rcases h2 with ⟨z, rfl, za, ze, zf, zq⟩ | ⟨rfl, zq⟩
   ·have zx : x < z := by
     rcases Nat.lt_or_ge x z with q | q
     ·exact q
     ·have : x = z := by omega
      subst this
      rw [xf] at zf; cases zf
    exact ⟨z, true, rfl, fun q => (by cases q), zx, by omega, rowsF_row xa zx ze xq zq zf⟩
   ·refine ⟨g.dataAt + g.dataN, false, rfl, fun _ => rfl, xe, Nat.le_refl _, ?_⟩
    rw [rowsF_end xa xe xq zq, rowsF_none (fun y h1 h2 => by omega)]
  obtain ⟨z, b, rfl, hb, xz, zl, hr⟩ := go
  have lst : out ++ [(x, z - x)] ++ rowsF (hasBit W) z (g.dataAt + g.dataN) = rowsP g W := by rw [List.append_assoc]; show out ++ ((x, z - x) :: rowsF (hasBit W) z (g.dataAt + g.dataN)) = _; rw [← hr]; exact hq
  have rc : Rc (out ++ [(x, z - x)]) = Rc out ++ [kI x, kI (z - x)] := Rc_snoc _ _
  have nfl : ∀ v, Th.osl v 52 2 true (out.length + 1) (Rc out ++ [kI x, kI (z - x)]) = OR v (out ++ [(x, z - x)]) := fun v => by
   rw [← rc]; show _ = Th.osl v _ 2 true (out ++ [(x, z - x)]).length _; rw [List.length_append]; rfl
  have fin : ∀ (y1 y2 y4 y5 y6 v3 : Value) (w : Hs), Sto h [] w [.osl v3 52 2 true (out.length + 1) (Rc out ++ [kI x, kI (z - x)]), .rob p (plO g (.slice va W.length vc)), .rsl (.slice va W.length vc) 1 (Wl W)] → n ≠ 0 → WP (self (kI z) y1 y2 v3 y4 y5 y6 w) (fun v h' => New h h' (OR v (rowsP g W))) := fun y1 y2 y4 y5 y6 v3 w H1 n0 => by
   rw [nfl] at H1
   exact ih (n - 1) (by omega) z _ _ _ _ _ _ _ _ (by omega) (by rw [List.length_append, List.length_singleton]; omega) zl lst H1
  cases b
  ·obtain rfl := hb rfl
   rw [if_neg (by decide)]
   repeat' (first | (with_reducible first | refine w_jn ?_ | refine w_cndT ?_ | refine w_notF ?_) | ((with_reducible apply w_extr) ; rfl) | ((with_reducible apply w_build) ; rfl; (try dsimp only [splice, ev, cellsL, rep, List.cons_append, List.nil_append])) | ((with_reducible apply w_mkrow H) ; rfl; (clear H; intro u H hu; (try dsimp only [List.set_cons_zero, List.set_cons_succ, cellsL, List.toList_toArray, splice, ev, rep, List.cons_append, List.nil_append] at H))) | ((with_reducible refine w_sub_NN ?_ ?_ ?_) ; omega; omega))
   refine w_appendB 1 0 H rfl rfl rfl rfl (by omega) (by omega) fun v3 u4 H4 hn4 => ?_
   exact fin _ _ _ _ _ _ _ H4.tail (by omega)
  ·rw [if_pos rfl]
   repeat' (first | (with_reducible first | refine w_jn ?_ | refine w_cndF ?_ | refine w_notT ?_) | ((with_reducible apply w_extr) ; rfl) | ((with_reducible apply w_build) ; rfl; (try dsimp only [splice, ev, cellsL, rep, List.cons_append, List.nil_append])) | ((with_reducible apply w_mkrow H) ; rfl; (clear H; intro u H hu; (try dsimp only [List.set_cons_zero, List.set_cons_succ, cellsL, List.toList_toArray, splice, ev, rep, List.cons_append, List.nil_append] at H))) | ((with_reducible refine w_sub_NN ?_ ?_ ?_) ; omega; omega))
   refine w_appendB 1 0 H rfl rfl rfl rfl (by omega) (by omega) fun v3 u4 H4 hn4 => ?_
   exact fin _ _ _ _ _ _ _ H4.tail (by omega)
 ·repeat' (first | (with_reducible first | refine w_jn ?_ | refine w_cndT ?_ | refine w_notF ?_) | ((with_reducible apply w_extr) ; rfl))
  rw [rowsF_none xq, List.append_nil] at hq
  subst hq
  exact w_clrO 0 H rfl fun v' h' n => n
set_option linter.unusedSimpArgs false
structure IsRow (f : Nat → Bool) (a e : Nat) (r : Nat × Nat) : Prop where
 lo : a ≤ r.1
 ln : 1 ≤ r.2
 hi : r.1 + r.2 ≤ e
 fr : ∀ y, r.1 ≤ y → y < r.1 + r.2 → f y = false
 st : r.1 = a ∨ f (r.1 - 1) = true
 en : r.1 + r.2 = e ∨ f (r.1 + r.2) = true
theorem scan_row {f : Nat → Bool} {a : Nat} : ∀ {n i row : Nat}, a + row ≤ i → (∀ y, i - row ≤ y → y < i → f y = false) → (i - row = a ∨ f (i - row - 1) = true) → ∀ r ∈ scan f n i row, IsRow f a (i + n) r := by
 intro n
 induction n with
 | zero =>
  intro i row h1 h2 h3 r hr
  unfold scan at hr
  split at hr
  ·rw [List.mem_singleton.1 hr]
   exact ⟨by show a ≤ i - row; omega, by assumption, by show i - row + row ≤ _; omega, fun y h4 h5 => h2 y h4 (by have : y < i - row + row := h5; omega), h3, .inl (by show i - row + row = _; omega)⟩
  ·cases hr
 | succ n ih =>
  intro i row h1 h2 h3 r hr
  unfold scan at hr
  rw [show i + (n + 1) = i + 1 + n by omega]
  split at hr
  ·have hf : f i = true := by assumption
   have nx := ih (i := i + 1) (row := 0) (by omega) (fun y h4 h5 => by omega) (.inr hf)
   split at hr
   ·rcases List.mem_cons.1 hr with rfl | hr
    ·exact ⟨by show a ≤ i - row; omega, by assumption, by show i - row + row ≤ _; omega, fun y h4 h5 => h2 y h4 (by have : y < i - row + row := h5; omega), h3, .inr (by show f (i - row + row) = true; rw [show i - row + row = i by omega]; exact hf)⟩
    ·exact nx r hr
   ·exact nx r hr
  ·have hf : f i = false := by simpa using (show ¬ f i = true by assumption)
   refine ih (i := i + 1) (row := row + 1) (by omega) (fun y h4 h5 => ?_) (by rw [show i + 1 - (row + 1) = i - row by omega]; exact h3) r hr
   by_cases q : y = i
   ·rw [q]; exact hf
   ·exact h2 y (by omega) (by omega)
theorem scan_ge {f : Nat → Bool} : ∀ {n i row : Nat}, row ≤ i → ∀ r ∈ scan f n i row, i - row ≤ r.1 := by
 intro n
 induction n with
 | zero =>
  intro i row h1 r hr
  unfold scan at hr
  split at hr
  ·rw [List.mem_singleton.1 hr]; exact Nat.le_refl _
  ·cases hr
 | succ n ih =>
  intro i row h1 r hr
  unfold scan at hr
  split at hr
  ·split at hr
   ·rcases List.mem_cons.1 hr with rfl | hr
    ·exact Nat.le_refl _
    ·have := ih (i := i + 1) (row := 0) (by omega) r hr; omega
   ·have := ih (i := i + 1) (row := 0) (by omega) r hr; omega
  ·have := ih (i := i + 1) (row := row + 1) (by omega) r hr; omega
abbrev Rise (l : List (Nat × Nat)) : Prop := l.Pairwise fun r q => r.1 + r.2 < q.1
theorem scan_rise {f : Nat → Bool} : ∀ {n i row : Nat}, row ≤ i → Rise (scan f n i row) := by
 intro n
 induction n with
 | zero =>
  intro i row h1
  unfold scan
  split
  ·exact List.pairwise_singleton _ _
  ·exact List.Pairwise.nil
 | succ n ih =>
  intro i row h1
  unfold scan
  split
  ·split
   ·exact List.pairwise_cons.2 ⟨fun r hr => by have := scan_ge (f := f) (n := n) (i := i + 1) (row := 0) (by omega) r hr; show i - row + row < _; omega, ih (by omega)⟩
   ·exact ih (by omega)
  ·exact ih (by omega)
theorem scan_all {f : Nat → Bool} : ∀ {n i row : Nat}, row ≤ i → ∀ x, i - row ≤ x → x < i + n → (i ≤ x → f x = false) → ∃ r ∈ scan f n i row, r.1 ≤ x ∧ x < r.1 + r.2 := by
 intro n
 induction n with
 | zero =>
  intro i row h1 x h2 h3 h4
  unfold scan
  rw [if_pos (by omega)]
  exact ⟨_, List.mem_singleton.2 rfl, h2, by show x < i - row + row; omega⟩
 | succ n ih =>
  intro i row h1 x h2 h3 h4
  unfold scan
  split
  ·have hf : f i = true := by assumption
   have xi : x ≠ i := fun q => by have := h4 (by omega); rw [q, hf] at this; cases this
   by_cases q : x < i
   ·rw [if_pos (by omega)]
    exact ⟨_, List.mem_cons_self .., h2, by show x < i - row + row; omega⟩
   ·obtain ⟨r, hr, h5⟩ := ih (i := i + 1) (row := 0) (by omega) x (by omega) (by omega) (fun _ => h4 (by omega))
    split
    ·exact ⟨r, List.mem_cons_of_mem _ hr, h5⟩
    ·exact ⟨r, hr, h5⟩
  ·exact ih (i := i + 1) (row := row + 1) (by omega) x (by omega) (by omega) (fun _ => h4 (by omega))
def frN (f : Nat → Bool) : Nat → Nat → Nat
 | 0, _ => 0
 | n + 1, i => (if f i then 0 else 1) + frN f n (i + 1)
theorem sumR_cons (r : Nat × Nat) (l : List (Nat × Nat)) : sumR (r :: l) = r.2 + sumR l := by unfold sumR; rw [List.map_cons, List.sum_cons]
theorem scan_sum {f : Nat → Bool} : ∀ {n i row : Nat}, sumR (scan f n i row) = row + frN f n i := by
 intro n
 induction n with
 | zero =>
  intro i row
  unfold scan frN
  split
  ·rw [sumR_cons]; rfl
  ·show 0 = _; omega
 | succ n ih =>
  intro i row
  unfold scan frN
  split
  ·split
   ·rw [sumR_cons, ih]
   ·rw [ih]; omega
  ·rw [ih]; omega
theorem cntF_fr {f : Nat → Bool} : ∀ {n i : Nat}, cntF f (i + n) + frN f n i = cntF f i + n := by
 intro n
 induction n with
 | zero => intro i; rfl
 | succ n ih =>
  intro i
  have := ih (i := i + 1)
  rw [show i + (n + 1) = i + 1 + n by omega]
  unfold frN
  have s : cntF f (i + 1) = cntF f i + if f i then 1 else 0 := rfl
  rw [s] at this
  split
  ·rw [if_pos (by assumption)] at this; omega
  ·rw [if_neg (by assumption)] at this; omega
theorem rowsF_row1 {f : Nat → Bool} {a e : Nat} (h : a ≤ e) : ∀ r ∈ rowsF f a e, IsRow f a e r := fun r hr => by
 have := scan_row (f := f) (a := a) (n := e - a) (i := a) (row := 0) (by omega) (fun y h1 h2 => by omega) (.inl rfl) r hr
 rwa [show a + (e - a) = e by omega] at this
theorem rowsF_rise {f : Nat → Bool} {a e : Nat} : Rise (rowsF f a e) := scan_rise (Nat.zero_le _)
theorem rowsF_all {f : Nat → Bool} {a e : Nat} (h : a ≤ e) {x : Nat} (h1 : a ≤ x) (h2 : x < e) (hf : f x = false) : ∃ r ∈ rowsF f a e, r.1 ≤ x ∧ x < r.1 + r.2 := scan_all (Nat.zero_le _) x h1 (by omega) fun _ => hf
theorem rowsF_sum {f : Nat → Bool} {a e : Nat} (h : a ≤ e) : cntF f e + sumR (rowsF f a e) = cntF f a + (e - a) := by
 unfold rowsF
 rw [scan_sum, Nat.zero_add]
 have := cntF_fr (f := f) (n := e - a) (i := a)
 rwa [show a + (e - a) = e by omega] at this
theorem rowsF_cnt {f : Nat → Bool} {a e : Nat} (h : a ≤ e) (he : e ≤ 1024) : Cnt (rowsF f a e) := fun r hr => by
 have x := rowsF_row1 h r hr
 have := x.ln; have := x.hi
 exact ⟨x.ln, by omega, by omega⟩
theorem rowsF_len {f : Nat → Bool} {a e : Nat} (h : a ≤ e) : (rowsF f a e).length ≤ e - a := by
 have s := rowsF_sum (f := f) h
 have g : ∀ {l : List (Nat × Nat)}, (∀ r ∈ l, 1 ≤ r.2) → l.length ≤ sumR l := by
  intro l
  induction l with
  | nil => intro _; exact Nat.zero_le _
  | cons r l ih =>
   intro q
   have h1 := q r (List.mem_cons_self ..)
   have h2 := ih fun r hr => q r (List.mem_cons_of_mem _ hr)
   rw [sumR_cons, List.length_cons]; omega
 have := g fun r hr => (rowsF_row1 (f := f) h r hr).ln
 have m : ∀ d, cntF f a ≤ cntF f (a + d) := fun d => by
  induction d with
  | zero => exact Nat.le_refl _
  | succ d ih => rw [show a + (d + 1) = a + d + 1 by omega, show cntF f (a + d + 1) = cntF f (a + d) + if f (a + d) then 1 else 0 from rfl]; omega
 have := m (e - a)
 rw [show a + (e - a) = e by omega] at this
 omega
set_option linter.unusedSimpArgs false
theorem id_rsl {id n c u b : Nat} {L : List (List Value)} (h : Th.id (.rsl (.slice (some ⟨id, 0, none⟩) n c) u L) = some b) : b = id := by
 cases L with
 | nil => cases h
 | cons x l => injection h with q; exact q.symm
def CFreeP (R : RnK) : Prop := ∀ (g : Geo) (p : Nat) (v : Value) (W : List Nat) (h : Hs), PlAt h g p v W → R 19 [pV p] h = some (.val (kI (sumR (rowsP g W))) h)
theorem free_okP {R : RnK} {N : Nat} (cr : CRows R) (ct : CTotal R) {g : Geo} {p : Nat} {v : Value} {W : List Nat} {h : Hs} (A : PlAt h g p v W) : r19 R N [pV p] h = some (.val (kI (sumR (rowsP g W))) h) := by
 refine WP.eqn ?_
 unfold r19
 have H := A.enter
 obtain ⟨x1, x2, x3, x4, x5⟩ := A.ok.dt
 refine w_unC ?_
 refine w_enK ?_
 refine w_call (cr g p v W _ (PlAt.of2 0 1 H rfl rfl A.ne A.ok A.b2 A.len A.sm)) fun v1 u1 n1 => ?_
 replace H := H.call n1
 have b2 := A.b2
 have rl : (rowsP g W).length ≤ g.dataAt + g.dataN - g.dataAt := rowsF_len (f := hasBit W) (Nat.le_add_right g.dataAt g.dataN)
 refine w_callE (ct (rowsP g W) v1 _ (rowsF_cnt (by omega) (by omega)) (by omega) (H.rdOR 0 rfl)) ?_
 exact w_clr H rfl ⟨rfl, rfl⟩
def CBitsP (R : RnK) : Prop := ∀ (g : Geo) (p : Nat) (v : Value) (W : List Nat) (h : Hs), PlAt h g p v W → WP (R 20 [pV p] h) fun r h' => ∃ s, r = .agg #[s] ∧ New h h' (OW s W)
theorem bits_okP {R : RnK} {N : Nat} (cs : CBitsSet R) {g : Geo} {p : Nat} {v : Value} {W : List Nat} {h : Hs} (A : PlAt h g p v W) : WP (r20 R N [pV p] h) fun r h' => ∃ s, r = .agg #[s] ∧ New h h' (OW s W) := by
 unfold r20
 have H := A.enter
 obtain ⟨x1, x2, x3, x4, x5⟩ := A.ok.dt
 have ln := A.len
 unfold plO plC at H
 repeat' (first | (with_reducible first | refine w_unC ?_ | refine w_enK ?_ | refine w_fieldA ?_ | refine w_nil ?_) | ((with_reducible refine w_alloc H ?_) ; (clear H; intro u H hu)) | ((with_reducible apply w_loadsR 1 H) ; rfl; rfl; rfl; rfl; (try dsimp only [List.drop_zero, List.drop_succ_cons, List.take_succ_cons, List.take_zero])))
 refine w_call (cs W true [] v (.slice none 0 0) _ A.sm (by omega) (by decide) (fun _ h => by cases h) (H.rd 2 rfl) (Rd.none _ _)) fun v1 u1 n1 => ?_
 obtain ⟨s, rfl, n1⟩ := n1
 have ow : OW s (setBits W true []) = .osl s 58 1 true W.length (Wc W) := rfl
 rw [ow] at n1
 obtain ⟨sa, sc, rfl⟩ := n1.2.1.form
 replace H := H.call n1
 repeat' (first | (with_reducible refine w_st1A ?_) | ((with_reducible apply w_storeV 1 H) ; rfl; rfl; rfl; omega; rfl; (clear H; intro u H hu; (try dsimp only [List.set_cons_zero, List.set_cons_succ, cellsL, List.toList_toArray, splice, ev, rep, List.cons_append, List.nil_append] at H))) | ((with_reducible apply w_retC 1 H) ; rfl; rfl; rfl))
 exact w_clrC (fun v => .agg #[v]) 0 H rfl (fun _ _ _ => by simp [blkV, blkP]) (fun _ _ _ _ => rfl) fun v' h' n => ⟨_, rfl, n⟩
def CGroup (R : RnK) : Prop := ∀ (g : Geo) (p : Nat) (v : Value) (W : List Nat) (c : Int) (h : Hs), PlAt h g p v W → WP (R 26 [pV p, .int .i64 c] h) fun r h' => h' = h ∧ ∃ f o : Nat, r = .tuple #[kI f, kI o] ∧ f ≤ 10000 ∧ o ≤ 10000
theorem group_ok {R : RnK} {N : Nat} (cd : CDataF R) {g : Geo} {p : Nat} {v : Value} {W : List Nat} {c : Int} {h : Hs} (A : PlAt h g p v W) : WP (r26 R N [pV p, .int .i64 c] h) fun r h' => h' = h ∧ ∃ f o : Nat, r = .tuple #[kI f, kI o] ∧ f ≤ 10000 ∧ o ≤ 10000 := by
 have cdg := cd g
 unfold Geo.v at cdg
 unfold r26
 have H := A.enter
 obtain ⟨x1, x2, x3, x4, x5⟩ := A.ok.dt
 have c1 := A.ok.1.c1
 have c2 := A.ok.1.c2
 unfold plO plC at H
 by_cases hc : 0 ≤ c ∧ c < g.c
 ·obtain ⟨k, rfl⟩ := Int.eq_ofNat_of_zero_le hc.1
  rw [show (Value.int .i64 (k : Int)) = kI k from rfl]
  have kc : k < g.c := by omega
  have dq : g.dataN / g.c ≤ g.dataN := Nat.div_le_self _ _
  have dm : k * (g.dataN / g.c) ≤ g.dataN := Nat.le_trans (Nat.mul_le_mul_right _ (by omega : k ≤ g.c)) (Nat.mul_div_le _ _)
  repeat' (first | (refine w_callE (cdg _ A.ok) ?_) | (with_reducible first | refine w_jn ?_ | refine w_cndT ?_ | refine w_cndF ?_ | refine w_gFf ?_ | refine w_pickF ?_ | refine w_unC ?_ | refine w_enK ?_ | refine w_fieldA ?_ | refine w_nil ?_) | ((with_reducible apply w_extr) ; rfl) | ((with_reducible first | refine w_lss_NN (fun _ => ?_) (fun _ => ?_) | refine w_geq_NN (fun _ => ?_) (fun _ => ?_) | refine w_eql_NN (fun _ => ?_) (fun _ => ?_)) <;> first | (exfalso; omega) | skip) | ((with_reducible first | refine w_add_NN ?_ ?_ | refine w_mul_NN ?_ ?_) ; omega) | ((with_reducible refine w_sub_NN ?_ ?_ ?_) ; omega; omega) | ((with_reducible refine w_quo_NN ?_ ?_ ?_) ; omega; omega) | ((with_reducible apply w_loadR 0 H) ; rfl; rfl; rfl) | ((with_reducible apply w_loadsR 0 H) ; rfl; rfl; rfl; rfl; (try dsimp only [List.drop_zero, List.drop_succ_cons, List.take_succ_cons, List.take_zero])))
  all_goals
   dsimp only
   exact w_clr H rfl ⟨rfl, _, _, rfl, by omega, by omega⟩
 ·repeat' (first | (with_reducible first | refine w_jn ?_ | refine w_cndT ?_ | refine w_gFt ?_ | refine w_gFf ?_ | refine w_pickT ?_ | refine w_pickF ?_ | refine w_unC ?_ | refine w_enK ?_ | refine w_fieldA ?_ | refine w_nil ?_) | ((with_reducible first | refine w_lss_IN (fun _ => ?_) (fun _ => ?_) | refine w_geq_IN (fun _ => ?_) (fun _ => ?_)) <;> first | (exfalso; omega) | skip) | ((with_reducible apply w_loadR 0 H) ; rfl; rfl; rfl))
  all_goals exact w_clr H rfl ⟨rfl, 0, 0, rfl, by omega, by omega⟩
def CNewP (R : RnK) : Prop := ∀ (g : Geo) (v : Value) (W : List Nat) (h : Hs), g.Ok → g.b ≤ 200 → W.length = (g.b + 63) / 64 → Small W → Rd h v 1 (Wl W) → WP (R 6 [g.v, .agg #[v]] h) fun r h' => ∃ p s, r = .tuple #[pV p, kI 0] ∧ Same h h' ∧ h.nx ≤ p ∧ PlAt h' g p s W ∧ ∀ b, Th.id (.rsl s 1 (Wl W)) = some b → h.nx ≤ b
theorem new_okP {R : RnK} {N : Nat} (cg : CGood R) (cs : CBitsSet R) {g : Geo} {v : Value} {W : List Nat} {h : Hs} (x : g.Ok) (xb : g.b ≤ 200) (ln : W.length = (g.b + 63) / 64) (sm : Small W) (r : Rd h v 1 (Wl W)) : WP (r6 R N [g.v, .agg #[v]] h) fun r h' => ∃ p s, r = .tuple #[pV p, kI 0] ∧ Same h h' ∧ h.nx ≤ p ∧ PlAt h' g p s W ∧ ∀ b, Th.id (.rsl s 1 (Wl W)) = some b → h.nx ≤ b := by
 have cgg := cg g
 unfold Geo.v at cgg
 unfold r6 Geo.v
 have H := Sto.enter1 r
 obtain ⟨x1, x2, x3, x4, x5⟩ := x.dt
 obtain ⟨va, vc, rfl⟩ := r.1.formN (Wl_len W)
 have lw := Wl_len W
 repeat' (first | ((refine w_callB (cgg _) (fun _ => ?_) (fun _ => ?_)) <;> first | (exfalso; omega) | skip) | (with_reducible first | refine w_jn ?_ | refine w_cndT ?_ | refine w_cndF ?_ | refine w_gFt ?_ | refine w_gFf ?_ | refine w_pickT ?_ | refine w_pickF ?_ | refine w_notT ?_ | refine w_notF ?_ | refine w_unC ?_ | refine w_enK ?_ | refine w_fieldA ?_ | refine w_lenV ?_) | ((with_reducible refine w_boxA H ?_) ; (clear H; intro u H hu)) | ((with_reducible refine w_lss_NN (fun _ => ?_) (fun _ => ?_)) <;> first | (exfalso; omega) | skip) | ((with_reducible refine w_add_NN ?_ ?_) ; omega) | ((with_reducible refine w_sub_NN ?_ ?_ ?_) ; omega; omega) | ((with_reducible refine w_quo_NN ?_ ?_ ?_) ; omega; omega) | ((with_reducible apply w_load 0 H) ; rfl; rfl; rfl) | ((with_reducible apply w_loadsF 0 H) ; rfl; rfl; rfl) | ((with_reducible apply w_load 1 H) ; rfl; rfl; rfl) | ((with_reducible apply w_loadsF 1 H) ; rfl; rfl; rfl))
 ·have H1 := H
  refine w_call (cs W true [] _ (.slice none 0 0) _ sm (by omega) (by decide) (fun _ h => by cases h) (Rd.lo (H.rd 2 rfl) _) (Rd.none _ _)) fun v1 u1 n1 => ?_
  obtain ⟨s, rfl, n1⟩ := n1
  have s1 := n1.1
  refine w_light n1 fun u3 n3 => ?_
  clear n1
  have s3 := n3
  have ow : OW s (setBits W true []) = .osl s 58 1 true W.length (Wc W) := rfl
  rw [ow] at s3
  obtain ⟨id, c, rfl⟩ : ∃ id c, s = .slice (some ⟨id, 0, none⟩) W.length c := by
   rcases s3.2.1.2 with ⟨_, z⟩ | ⟨id, c, cs, sz, f, q, _⟩
   ·omega
   ·exact ⟨id, c, q⟩
  replace H := H.call s3
  have hn := s3.2.2 id rfl
  have hx := H.nx
  refine w_after ?_
  refine w_blind ?_
  refine w_boxMG (cs := plC g (.slice (some ⟨id, 0, none⟩) W.length c)) H fun u4 H4 hu4 hg => ?_
  clear H
  have H := H4.unfl 0 rfl
  dsimp only [List.set_cons_zero] at H
  have rdw := H.rdO 1 rfl
  rw [← Wl_ones] at rdw
  refine w_clrN H (mvAll_stay (by omega) hg) ⟨u3.nx, _, rfl, ⟨⟨H.nx, fun id hid => H.fr id hid (fun q => by cases q)⟩, rfl⟩, by omega, ⟨x, xb, by show u3.nx < u4.nx; omega, H.ok _ (List.mem_of_getElem? (i := 0) rfl), Rd.lo rdw _, ?_, ln, sm⟩, fun b hb => ?_⟩
  ·intro e
   have := id_rsl e
   omega
  ·have := id_rsl hb
   subst this
   have := H1.nx
   omega
 ·exact absurd x ‹_›
set_option linter.unusedSimpArgs false
def Ril (l : List (Int × Int)) : List (List Value) := l.map fun r => [.int .i64 r.1, .int .i64 r.2]
theorem Ril_len (l : List (Int × Int)) : (Ril l).length = l.length := List.length_map _
theorem Ril_get {l : List (Int × Int)} {i : Nat} (hi : i < l.length) : (Ril l)[i]? = some [.int .i64 l[i].1, .int .i64 l[i].2] := by
 unfold Ril; rw [List.getElem?_map, List.getElem?_eq_getElem hi]; rfl
def nR (l : List (Int × Int)) : List (Nat × Nat) := l.filterMap fun r => if 1 ≤ r.2 then some (r.1.toNat, r.2.toNat) else none
def iR (l : List (Nat × Nat)) : List (Int × Int) := l.map fun r => ((r.1 : Int), (r.2 : Int))
theorem Rl_iR (l : List (Nat × Nat)) : Rl l = Ril (iR l) := by unfold Rl Ril iR; rw [List.map_map]; rfl
theorem nR_iR {l : List (Nat × Nat)} (h : ∀ r ∈ l, 1 ≤ r.2) : nR (iR l) = l := by
 induction l with
 | nil => rfl
 | cons r l ih =>
  have h1 := h r (List.mem_cons_self ..)
  show (((fun r : Int × Int => if 1 ≤ r.2 then some (r.1.toNat, r.2.toNat) else none) ((r.1 : Int), (r.2 : Int))) |> fun o => _) = _
  unfold nR iR at ih ⊢
  rw [List.map_cons, List.filterMap_cons, ih fun q hq => h q (List.mem_cons_of_mem _ hq)]
  rw [if_pos (by show 1 ≤ (r.2 : Int); omega)]
  rfl
theorem nR_snoc (l : List (Int × Int)) (r : Int × Int) : nR (l ++ [r]) = nR l ++ if 1 ≤ r.2 then [(r.1.toNat, r.2.toNat)] else [] := by
 unfold nR
 rw [List.filterMap_append]
 congr 1
 split
 ·rename_i q; rw [List.filterMap_cons, if_pos q]; rfl
 ·rename_i q; rw [List.filterMap_cons, if_neg q]; rfl
def PlQ (h h' : Hs) (g : Geo) (p : Nat) (v : Value) (W : List Nat) (v' : Value) (W' : List Nat) : Prop := Mut h h' p ∧ PlAt h' g p v' W' ∧ ((v' = v ∧ W' = W) ∨ ∀ b, Th.id (.rsl v' 1 (Wl W')) = some b → h.nx ≤ b)
def CMarkP (R : RnK) : Prop := ∀ (g : Geo) (p : Nat) (v : Value) (W : List Nat) (yes : Bool) (l : List (Int × Int)) (s : Value) (h : Hs), PlAt h g p v W → l.length ≤ 1000 → (∀ r ∈ l, 1 ≤ r.2 → 0 ≤ r.1 ∧ r.1 + r.2 ≤ 64 * W.length) → Rd h s 2 (Ril l) → Th.id (.rsl s 2 (Ril l)) ≠ some p →
 WP (R 34 [pV p, .bool yes, s] h) fun r h' => r = .tuple #[] ∧ ∃ v', PlQ h h' g p v W v' (setRuns W yes (nR l))
theorem mut_refl (h : Hs) (b : Nat) : Mut h h b := ⟨Nat.le_refl _, fun _ _ _ => rfl, fun _ h1 _ => h1, Nat.le_refl _, .inr rfl⟩
theorem mut_of {h h' : Hs} {b : Nat} (M : MutS [b] h h') : Mut h h' b := ⟨M.1, fun id hid hn => M.2.1 id hid (by simpa using hn), fun x h1 h2 => M.2.2.1 x h1 (by simpa using h2), M.2.2.2.1, M.2.2.2.2 b (by simp)⟩
theorem row_inj {B : Option Blk} {g : Geo} {v v' : Value} (a : Holds B (plO g v)) (b : Holds B (plO g v')) : v = v' := by
 obtain ⟨cs, f, hb, _, hc⟩ := a
 obtain ⟨cs', f', hb', _, hc'⟩ := b
 rw [hb] at hb'
 injection hb' with e
 injection e with e
 subst e
 have x := (hc 4).symm.trans (hc' 4)
 simpa [plC] using x
theorem mark_okP {R : RnK} {N : Nat} (cs : CBitsSet R) {g : Geo} {p : Nat} {v : Value} {W : List Nat} {yes : Bool} {l : List (Int × Int)} {s : Value} {h : Hs} (hN : 1000000 ≤ N) (A : PlAt h g p v W) (hl : l.length ≤ 1000) (hr : ∀ r ∈ l, 1 ≤ r.2 → 0 ≤ r.1 ∧ r.1 + r.2 ≤ 64 * W.length) (r : Rd h s 2 (Ril l)) (hne : Th.id (.rsl s 2 (Ril l)) ≠ some p) :
 WP (r34 R N [pV p, .bool yes, s] h) fun r h' => r = .tuple #[] ∧ ∃ v', PlQ h h' g p v W v' (setRuns W yes (nR l)) := by
 unfold r34
 have ln := A.len
 have b2 := A.b2
 obtain ⟨x1, x2, x3, x4, x5⟩ := A.ok.dt
 obtain ⟨sa, sc, rfl⟩ := r.1.formN (Ril_len l)
 have l1 := Ril_len l
 have H := Sto.enterM (h := h) (b := p) (o := plO g v) [.rsl v 1 (Wl W), .rsl (.slice sa l.length sc) 2 (Ril l)] A.row A.pl fun t ht => by
  simp only [List.mem_cons, List.not_mem_nil, or_false] at ht
  rcases ht with rfl | rfl
  ·exact ⟨rfl, A.rd.1, fun b hb => ⟨A.rd.2 b hb, fun e => A.ne (by rw [← e]; exact hb)⟩⟩
  ·exact ⟨rfl, r.1, fun b hb => ⟨r.2 b hb, fun e => hne (by rw [← e]; exact hb)⟩⟩
 repeat' (first | (with_reducible first | refine w_jn ?_ | refine w_unC ?_ | refine w_enK ?_ | refine w_lenV ?_))
 refine lp_ind (Good := fun n (self : L7) => ∀ (i : Nat) (y1 y2 y3 y4 y5 y6 v' : Value) (w : Hs), i + n = l.length → ((v' = v ∧ setRuns W yes (nR (l.take i)) = W) ∨ ∀ b, Th.id (.rsl v' 1 (Wl (setRuns W yes (nR (l.take i))))) = some b → h.nx ≤ b) → Sto h [p] w (.blk p (plO g v') :: .rsl v' 1 (Wl (setRuns W yes (nR (l.take i)))) :: .rsl (.slice sa l.length sc) 2 (Ril l) :: []) → WP (self (kI i) y1 y2 y3 y4 y5 y6 w) (fun r h' => r = .tuple #[] ∧ ∃ v', PlQ h h' g p v W v' (setRuns W yes (nR l)))) (fun n self ih i y1 y2 y3 y4 y5 y6 v' w hi hv H1 => ?_) N l.length (by omega) 0 _ _ _ _ _ _ v _ (by omega) (.inl ⟨rfl, rfl⟩) H
 clear H
 have H := H1
 clear H1
 have ws : Small (setRuns W yes (nR (l.take i))) := setRuns_small _ _ A.sm
 have wl : (setRuns W yes (nR (l.take i))).length = W.length := setRuns_len _ _ _
 repeat' (first | (with_reducible first | refine w_jn ?_ | refine w_cndT ?_ | refine w_cndF ?_) | ((with_reducible refine w_lss_NN (fun _ => ?_) (fun _ => ?_)) <;> first | (exfalso; omega) | skip))
 ·have ii : i < l.length := by omega
  refine w_at 2 H rfl (Ril_get ii) rfl rfl ?_
  have rb := hr _ (List.getElem_mem ii)
  have tk : nR (l.take (i + 1)) = nR (l.take i) ++ if 1 ≤ l[i].2 then [(l[i].1.toNat, l[i].2.toNat)] else [] := by rw [List.take_add_one, List.getElem?_eq_getElem ii]; exact nR_snoc _ _
  repeat' (first | (with_reducible first | refine w_jn ?_ | refine w_fieldA ?_) | ((with_reducible refine w_alloc H ?_) ; (clear H; intro u H hu)) | ((with_reducible apply w_load 0 H) ; rfl; rfl; rfl) | ((with_reducible apply w_storeV 0 H) ; rfl; rfl; rfl; omega; rfl; (clear H; intro u H hu; (try dsimp only [List.set_cons_zero, List.set_cons_succ, cellsL, List.toList_toArray, splice, ev, rep, List.cons_append, List.nil_append] at H))))
  generalize hB : setRuns W yes (nR (l.take i)) = B at *
  by_cases h1 : 1 ≤ l[i].2
  ·rw [if_pos h1] at tk
   have rb1 := rb h1
   obtain ⟨a, ha⟩ := Int.eq_ofNat_of_zero_le rb1.1
   obtain ⟨k, hk⟩ := Int.eq_ofNat_of_zero_le (show 0 ≤ l[i].2 by omega)
   rw [ha, hk] at H tk
   rw [hk]
   rw [show Value.int .i64 (k : Int) = kI k from rfl, show Value.int .i64 (a : Int) = kI a from rfl] at H
   rw [show Value.int .i64 (k : Int) = kI k from rfl]
   rw [show ((a : Int)).toNat = a from rfl, show ((k : Int)).toNat = k from rfl] at tk
   rw [ha, hk] at rb1
   have rb2 : a + k ≤ 64 * W.length := by omega
   replace H := H.unfl 0 rfl
   dsimp only [List.set_cons_zero] at H
   have nxt : setRuns W yes (nR (l.take (i + 1))) = setRun B yes a k := by rw [tk, setRuns_snoc, hB]
   refine lp_ind (Good := fun n2 (self2 : L3) => ∀ (j : Nat) (z1 z2 v2 : Value) (w2 : Hs), j + n2 = k → ((v2 = v ∧ setRun B yes a j = W) ∨ ∀ b, Th.id (.rsl v2 1 (Wl (setRun B yes a j))) = some b → h.nx ≤ b) → Sto h [p] w2 (.blk w.nx (.row 52 0 true false [kI a, kI k]) :: .blk p (plO g v2) :: .rsl v2 1 (Wl (setRun B yes a j)) :: .rsl (.slice sa l.length sc) 2 (Ril l) :: []) → WP (self2 (kI j) z1 z2 w2) (fun r h' => r = .tuple #[] ∧ ∃ v', PlQ h h' g p v W v' (setRuns W yes (nR l)))) (fun n2 self2 ih2 j z1 z2 v2 w2 hj hv2 H2 => ?_) N k (by omega) 0 _ _ v' _ (by omega) hv H
   clear H
   have H := H2
   clear H2
   have ss := setRun_small (j := j) ws yes a
   have sl := setRun_len B yes a j
   obtain ⟨va, vc, rfl⟩ := (H.rd 2 rfl).1.formN (Wl_len _)
   unfold plO plC at H
   repeat' (first | (with_reducible first | refine w_jn ?_ | refine w_cndT ?_ | refine w_cndF ?_ | refine w_fieldA ?_ | refine w_nil ?_) | ((with_reducible refine w_lss_NN (fun _ => ?_) (fun _ => ?_)) <;> first | (exfalso; omega) | skip) | ((with_reducible refine w_add_NN ?_ ?_) ; omega) | ((with_reducible apply w_load 0 H) ; rfl; rfl; rfl) | ((with_reducible apply w_loads 1 H) ; rfl; rfl; rfl; rfl; (try dsimp only [List.drop_zero, List.drop_succ_cons, List.take_succ_cons, List.take_zero])))
   ·refine w_mkrowL (lm := []) (hist := []) H rfl fun u3 H3 hu3 => ?_
    have H3n : h.nx ≤ u3.nx := H3.nx
    clear H
    have H := H3
    clear H3
    have le1 : ∀ q ∈ [((a + j : Nat) : Int)], q ≤ 9223372036854775807 := by
     intro q hq
     simp only [List.mem_singleton] at hq
     omega
    have bst : setRun B yes a (j + 1) = setBits (setRun B yes a j) yes [((a + j : Nat) : Int)] := setRun_succ _ _ _ _
    refine w_call (cs (setRun B yes a j) yes [((a + j : Nat) : Int)] _ _ _ ss (by omega) (by simp) le1 (H.rd 3 rfl) (H.rdB (L := [kI (a + j)]) (n := 1) (c := 1) 0 rfl rfl (Nat.le_refl _))) fun v6 u6 n6 => ?_
    obtain ⟨s6, rfl, n6⟩ := n6
    rw [← bst] at n6
    have nl : (setRun B yes a (j + 1)).length = W.length := by rw [setRun_len, wl]
    obtain ⟨id, c6, rfl⟩ : ∃ id c, s6 = .slice (some ⟨id, 0, none⟩) (setRun B yes a (j + 1)).length c := by
     rcases n6.2.1.2 with ⟨_, z⟩ | ⟨id, c, cs, sz, f, q, _⟩
     ·omega
     ·exact ⟨id, c, q⟩
    have hnew := n6.2.2 id rfl
    replace n6 := n6.ones
    rw [← Wl_ones] at n6
    replace H := H.call n6
    repeat' (first | (with_reducible first | refine w_fieldA ?_ | refine w_nil ?_ | refine w_st1A ?_) | ((with_reducible refine w_bar ?_ ?_) ; omega))
    refine w_storeN (x := .slice (some ⟨id, 0, none⟩) (setRun B yes a (j + 1)).length c6) 3 H rfl rfl (by decide) (by show 0 + 4 + 1 ≤ 5; omega) rfl fun u7 H7 hu7 => ?_
    clear H
    have H := H7
    clear H7
    dsimp only [List.set_cons_zero, List.set_cons_succ] at H
    repeat' (first | ((with_reducible first | refine w_bar ?_ ?_ | refine w_add_NN ?_ ?_) ; omega))
    replace H := H.sel [2, 3, 0, 5] 6 rfl (by decide) (by decide); dsimp only [List.filterMap_cons, List.filterMap_nil, List.getElem?_cons_zero, List.getElem?_cons_succ] at H
    exact ih2 (n2 - 1) (by omega) (j + 1) _ _ (.slice (some ⟨id, 0, none⟩) (setRun B yes a (j + 1)).length c6) _ (by omega) (.inr fun b hb => by
     have := id_rsl hb
     have := H3n
     omega) H
   ·obtain rfl : j = k := by omega
    exact ih (n - 1) (by omega) (i + 1) _ _ _ _ _ _ _ _ (by omega) (by rw [nxt]; exact hv2) (by rw [nxt]; exact H.tail)
  ·rw [if_neg h1, List.append_nil] at tk
   obtain ⟨N, rfl⟩ : ∃ q, N = q + 1 := ⟨N - 1, by omega⟩
   rw [lpT_succ]
   repeat' (first | (with_reducible first | refine w_jn ?_ | refine w_cndF ?_) | ((with_reducible refine w_lss_NI (fun _ => ?_) (fun _ => ?_)) <;> first | (exfalso; omega) | skip) | ((with_reducible refine w_add_NN ?_ ?_) ; omega))
   exact ih (n - 1) (by omega) (i + 1) _ _ _ _ _ _ v' _ (by omega) (by rw [tk, hB]; exact hv) (by rw [tk, hB]; exact H.tail)
 ·obtain rfl : i = l.length := by omega
  rw [List.take_length] at H hv ws wl
  have hp : Holds (w.hp.get p) (plO g v') := H.holds 0 rfl
  refine w_clrS H (fun s hs => by rw [List.mem_singleton.1 hs]; exact A.pl) rfl (fun h'' M e1 e2 => ⟨rfl, v', mut_of M, ⟨A.ok, A.b2, Nat.lt_of_lt_of_le A.pl M.1, by rw [e1]; exact hp, ?_, H.neR (i := 0) (j := 1) rfl rfl (by decide), by rw [wl]; exact A.len, ws⟩, hv⟩) (fun q => ?_)
  ·obtain ⟨hp2, nx2, lo2⟩ := h''
   cases e1
   cases e2
   exact Rd.lo (H.rd 1 rfl) _
  ·rw [q p A.pl] at hp
   have := row_inj hp A.row
   subst this
   refine ⟨rfl, v', ?_⟩
   rcases hv with ⟨_, hv⟩ | hv
   ·rw [hv]; exact ⟨mut_refl h p, A, .inl ⟨rfl, rfl⟩⟩
   ·exfalso
    obtain ⟨b, hb⟩ : ∃ b, ∀ W' : List Nat, W'.length = W.length → Th.id (.rsl v' 1 (Wl W')) = some b := by
     rcases A.rd.1.2 with ⟨_, _, _, z⟩ | ⟨id, o, c, cs, sz, e, u', rw_, f, z, _⟩
     ·have := Wl_len W
      rw [z] at this
      have : W.length = 0 := this.symm
      omega
     ·refine ⟨id, fun W' hW => ?_⟩
      rw [z]
      have : (Wl W').length = W'.length := Wl_len W'
      cases h2 : Wl W' with
      | nil => rw [h2] at this; have : W'.length = 0 := this.symm; omega
      | cons x l => rfl
    have h1 := hv b (hb _ wl)
    have h2 := A.rd.2 b (hb W rfl)
    omega
end Go.Proofs.Ytndlcnfnoiabbaa.poolPlays
